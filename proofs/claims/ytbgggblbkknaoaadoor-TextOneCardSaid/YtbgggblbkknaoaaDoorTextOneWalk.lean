/- Each function of the program is its tree. -/
import Derived.Test.YtbgggblbkknaoaaDoorProg
import Derived.Test.YtbgggblbkknaoaaDoorEvFn
import Derived.Test.YtbgggblbkknaoaaDoorEvTabs
import Derived.Test.YtbgggblbkknaoaaDoorEvLay8
import Derived.Test.YtbgggblbkknaoaaDoorEvExpA
import Derived.Test.YtbgggblbkknaoaaDoorEvExpB
import Derived.Test.YtbgggblbkknaoaaDoorEvExpC
import Derived.Test.YtbgggblbkknaoaaDoorEvExpD
import Derived.Test.YtbgggblbkknaoaaDoorEvExpE
import Derived.Test.YtbgggblbkknaoaaDoorEvAs8
import Derived.Test.YtbgggblbkknaoaaDoorEvAsE
import Derived.Test.YtbgggblbkknaoaaDoorTextOnePure
namespace Go.Ev
open Go.Proofs
noncomputable section
set_option linter.unusedVariables false
set_option linter.unusedSimpArgs false
set_option maxRecDepth 100000
set_option maxHeartbeats 4000000

variable [TabG] [TabsHold Tryd.prog] [CellHold ⟨0, 0, none⟩ (.iface 130 (.agg #[.pointer (some ⟨5, 63, none⟩)]))]
set_option linter.unusedSectionVars false

theorem wide : Tables.follows Tryd.prog.toTables .mixedOrders = true := by kernel_rfl

def G0 : FuncId → Option Sum := fun _ => none
theorem right_G0 : Right Tryd.prog G0 := fun f S h => by cases h

def T_tutorref03_Big : FuncId → Option Sum := G0

theorem right_T_tutorref03_Big : Right Tryd.prog T_tutorref03_Big := right_G0

abbrev cuts_tutorref03_Big : Cuts := []

theorem gentry_tutorref03_Big {R : Type} (K : AV → List O → Option R) (m m_1 m_2 m_3 : Int) (m_4 m_5 : List Int) (states : Int) :
    fnRun Tryd.prog T_tutorref03_Big cuts_tutorref03_Big Tryd.f11 0 [.agg [.v (.int .i64 m), .v (.int .i64 m_1), .v (.int .i64 m_2), .v (.int .i64 m_3), .rd ⟨false, 3, (.int .i64), m_4⟩, .rd ⟨false, 3, (.int .i64), m_5⟩], .v (.int .i64 states)] [] K =
    (fun (m m_1 m_2 m_3 : Int) (m_4 m_5 : List Int) (states : Int) (K0 : Bool → Option R) =>
    bi (decide (m_3 > states))
     (K0 true)
     (bi (decide ((m_4.length : Int) > 70000))
      (K0 true)
      (K0 (decide ((m_5.length : Int) > 70000))))) m m_1 m_2 m_3 m_4 m_5 states (fun r0 => K (.v (.bool r0)) []) := by kernel_rfl

def S_tutorref03_Big (l_tutorref03_Big : LT_tutorref03_Big) : Sum := ⟨[], fun {R} args ob K => match args, ob with
  | [.agg [.v (.int .i64 m), .v (.int .i64 m_1), .v (.int .i64 m_2), .v (.int .i64 m_3), .rd ⟨false, 3, (.int .i64), m_4⟩, .rd ⟨false, 3, (.int .i64), m_5⟩], .v (.int .i64 states)], [] => l_tutorref03_Big m m_1 m_2 m_3 m_4 m_5 states (fun r0 => K (.v (.bool r0)) [])
  | _, _ => none⟩

theorem sound_tutorref03_Big : Sound Tryd.prog 11 (S_tutorref03_Big @l_tutorref03_Big) := by
  refine fn_sound (cuts := cuts_tutorref03_Big) (fn := Tryd.f11) (Γ := T_tutorref03_Big) wide right_T_tutorref03_Big Tryd.func11 fun {R} K r args ob h => ?_
  unfold S_tutorref03_Big at h
  dsimp only at h
  split at h
  · exact ⟨Nat.le_of_ble_eq_true (by kernel_rfl), 0, (gentry_tutorref03_Big K _ _ _ _ _ _ _).trans h⟩
  · cases h

theorem call_tutorref03_Big : Callable Tryd.prog 11 := ⟨_, Tryd.func11, by kernel_rfl, by kernel_rfl⟩

def T_machine_says : FuncId → Option Sum := G0

theorem right_T_machine_says : Right Tryd.prog T_machine_says := right_G0

abbrev cuts_machine_says : Cuts := []

theorem gentry_machine_says {R : Type} (K : AV → List O → Option R) (m m_1 m_2 m_3 : Int) (m_4 m_5 : List Int) :
    fnRun Tryd.prog T_machine_says cuts_machine_says Tryd.f64 0 [.agg [.v (.int .i64 m), .v (.int .i64 m_1), .v (.int .i64 m_2), .v (.int .i64 m_3), .rd ⟨false, 3, (.int .i64), m_4⟩, .rd ⟨false, 3, (.int .i64), m_5⟩]] [] K =
    (fun (m m_1 m_2 m_3 : Int) (m_4 m_5 : List Int) (K0 : Int → Option R) =>
    bi (m == 1)
     (K0 m_3)
     (K0 (IntKind.i64.wrap (m_3 * m_1)))) m m_1 m_2 m_3 m_4 m_5 (fun r0 => K (.v (.int .i64 r0)) []) := by kernel_rfl

def S_machine_says (l_machine_says : LT_machine_says) : Sum := ⟨[], fun {R} args ob K => match args, ob with
  | [.agg [.v (.int .i64 m), .v (.int .i64 m_1), .v (.int .i64 m_2), .v (.int .i64 m_3), .rd ⟨false, 3, (.int .i64), m_4⟩, .rd ⟨false, 3, (.int .i64), m_5⟩]], [] => l_machine_says m m_1 m_2 m_3 m_4 m_5 (fun r0 => K (.v (.int .i64 r0)) [])
  | _, _ => none⟩

theorem sound_machine_says : Sound Tryd.prog 64 (S_machine_says @l_machine_says) := by
  refine fn_sound (cuts := cuts_machine_says) (fn := Tryd.f64) (Γ := T_machine_says) wide right_T_machine_says Tryd.func64 fun {R} K r args ob h => ?_
  unfold S_machine_says at h
  dsimp only at h
  split at h
  · exact ⟨Nat.le_of_ble_eq_true (by kernel_rfl), 0, (gentry_machine_says K _ _ _ _ _ _).trans h⟩
  · cases h

theorem call_machine_says : Callable Tryd.prog 64 := ⟨_, Tryd.func64, by kernel_rfl, by kernel_rfl⟩

def T_machine_head (l_machine_says : LT_machine_says) : FuncId → Option Sum := (addS G0 64 (S_machine_says @l_machine_says))

theorem right_T_machine_head : Right Tryd.prog (T_machine_head @l_machine_says) := (right_add right_G0 call_machine_says sound_machine_says)

abbrev cuts_machine_head : Cuts := []

theorem gentry_machine_head (l_machine_says : LT_machine_says) {R : Type} (K : AV → List O → Option R) (m m_1 m_2 m_3 : Int) (m_4 m_5 : List Int) :
    fnRun Tryd.prog (T_machine_head @l_machine_says) cuts_machine_head Tryd.f45 0 [.agg [.v (.int .i64 m), .v (.int .i64 m_1), .v (.int .i64 m_2), .v (.int .i64 m_3), .rd ⟨false, 3, (.int .i64), m_4⟩, .rd ⟨false, 3, (.int .i64), m_5⟩]] [] K =
    (fun (m m_1 m_2 m_3 : Int) (m_4 m_5 : List Int) (K0 : Int → Option R) =>
    bi (m != 1)
     (bi (m != 2)
      (K0 30)
      (bi (decide (m_1 < 1))
       (K0 1)
       (bi (decide (m_1 > 64))
        (K0 1)
        (bi (m == 1)
         (bi (m_2 != 2)
          (K0 33)
          (bi (decide (m_2 < 1))
           (K0 33)
           (bi (decide (m_2 > 64))
            (K0 33)
            (bi (decide (m_3 < 1))
             (K0 3)
             (bi (decide (m_3 > 1024))
              (K0 3)
              (bi ((m_4.length : Int) != (IntKind.i64.wrap (m_3 * m_1)))
               (K0 31)
               (l_machine_says m m_1 m_2 m_3 m_4 m_5
                (fun r1 =>
                 bi ((m_5.length : Int) != r1)
                  (K0 31)
                  (K0 0)))))))))
         (bi (decide (m_2 < 1))
          (K0 33)
          (bi (decide (m_2 > 64))
           (K0 33)
           (bi (decide (m_3 < 1))
            (K0 3)
            (bi (decide (m_3 > 1024))
             (K0 3)
             (bi ((m_4.length : Int) != (IntKind.i64.wrap (m_3 * m_1)))
              (K0 31)
              (l_machine_says m m_1 m_2 m_3 m_4 m_5
               (fun r2 =>
                bi ((m_5.length : Int) != r2)
                 (K0 31)
                 (K0 0))))))))))))
     (bi (decide (m_1 < 1))
      (K0 1)
      (bi (decide (m_1 > 64))
       (K0 1)
       (bi (m == 1)
        (bi (m_2 != 2)
         (K0 33)
         (bi (decide (m_2 < 1))
          (K0 33)
          (bi (decide (m_2 > 64))
           (K0 33)
           (bi (decide (m_3 < 1))
            (K0 3)
            (bi (decide (m_3 > 1024))
             (K0 3)
             (bi ((m_4.length : Int) != (IntKind.i64.wrap (m_3 * m_1)))
              (K0 31)
              (l_machine_says m m_1 m_2 m_3 m_4 m_5
               (fun r3 =>
                bi ((m_5.length : Int) != r3)
                 (K0 31)
                 (K0 0)))))))))
        (bi (decide (m_2 < 1))
         (K0 33)
         (bi (decide (m_2 > 64))
          (K0 33)
          (bi (decide (m_3 < 1))
           (K0 3)
           (bi (decide (m_3 > 1024))
            (K0 3)
            (bi ((m_4.length : Int) != (IntKind.i64.wrap (m_3 * m_1)))
             (K0 31)
             (l_machine_says m m_1 m_2 m_3 m_4 m_5
              (fun r4 =>
               bi ((m_5.length : Int) != r4)
                (K0 31)
                (K0 0)))))))))))) m m_1 m_2 m_3 m_4 m_5 (fun r0 => K (.v (.int .i64 r0)) []) := by kernel_rfl

def S_machine_head (l_machine_head : LT_machine_head) : Sum := ⟨[], fun {R} args ob K => match args, ob with
  | [.agg [.v (.int .i64 m), .v (.int .i64 m_1), .v (.int .i64 m_2), .v (.int .i64 m_3), .rd ⟨false, 3, (.int .i64), m_4⟩, .rd ⟨false, 3, (.int .i64), m_5⟩]], [] => l_machine_head m m_1 m_2 m_3 m_4 m_5 (fun r0 => K (.v (.int .i64 r0)) [])
  | _, _ => none⟩

theorem sound_machine_head : Sound Tryd.prog 45 (S_machine_head @l_machine_head) := by
  refine fn_sound (cuts := cuts_machine_head) (fn := Tryd.f45) (Γ := (T_machine_head @l_machine_says)) wide right_T_machine_head Tryd.func45 fun {R} K r args ob h => ?_
  unfold S_machine_head at h
  dsimp only at h
  split at h
  · exact ⟨Nat.le_of_ble_eq_true (by kernel_rfl), 0, (gentry_machine_head @l_machine_says K _ _ _ _ _ _).trans h⟩
  · cases h

theorem call_machine_head : Callable Tryd.prog 45 := ⟨_, Tryd.func45, by kernel_rfl, by kernel_rfl⟩

def T_machine_beyond : FuncId → Option Sum := G0

theorem right_T_machine_beyond : Right Tryd.prog T_machine_beyond := right_G0

abbrev cuts_machine_beyond : Cuts := [(2, [0, 1, 7, 8])]

abbrev sta_machine_beyond_2 (l : List Int) (n x7 x8 : Int) : St := ⟨fr0 21 [(0, .rd ⟨false, 3, (.int .i64), l⟩), (1, .v (.int .i64 n)), (7, .v (.int .i64 x7)), (8, .v (.int .i64 x8))], []⟩

abbrev gt_machine_beyond_2 {R : Type} (g : List Item → St → Option R) : GT_machine_beyond_2 R := fun (l : List Int) (n x7 x8 : Int) => g (at' Tryd.f46 2) (sta_machine_beyond_2 l n x7 x8)

theorem gstep_machine_beyond_2 {R : Type} (g : List Item → St → Option R) (K : AV → List O → Option R) (l : List Int) (n x7 x8 : Int) :
    runSeg Tryd.prog T_machine_beyond cuts_machine_beyond 0 g (finish Tryd.prog Tryd.f46 0 K) (at' Tryd.f46 2) (sta_machine_beyond_2 l n x7 x8) =
    (fun (g46_2 : GT_machine_beyond_2 R) (K0 : Int → Option R) (l : List Int) (n x7 x8 : Int) =>
    bi (decide (x8 < x7))
     (bi (decide (0 ≤ x8 ∧ x8 < ((l.length : Nat) : Int)))
      (bi (decide ((IntKind.u64.wrap (l.getD x8.toNat 0)) ≥ (IntKind.u64.wrap n)))
       (K0 x8)
       (g46_2 l n x7 (IntKind.i64.wrap (x8 + 1))))
      none)
     (K0 (-1))) (gt_machine_beyond_2 g) (fun r0 => K (.v (.int .i64 r0)) []) l n x7 x8 := by kernel_rfl

theorem gentry_machine_beyond {R : Type} (fuel : Nat) (K : AV → List O → Option R) (l : List Int) (n : Int) :
    fnRun Tryd.prog T_machine_beyond cuts_machine_beyond Tryd.f46 fuel [.rd ⟨false, 3, (.int .i64), l⟩, .v (.int .i64 n)] [] K =
    (fun (g46_2 : GT_machine_beyond_2 R) (K0 : Int → Option R) (l : List Int) (n : Int) =>
    g46_2 l n (l.length : Int) 0) (gt_machine_beyond_2 (runO Tryd.prog T_machine_beyond cuts_machine_beyond 0 (finish Tryd.prog Tryd.f46 0 K) fuel)) (fun r0 => K (.v (.int .i64 r0)) []) l n := by kernel_rfl

theorem runs_machine_beyond {R : Type} (K : AV → List O → Option R) : ∀ fuel : Nat,
    (gt_machine_beyond_2 (runO Tryd.prog T_machine_beyond cuts_machine_beyond 0 (finish Tryd.prog Tryd.f46 0 K) fuel)) = (run_machine_beyond (fun r0 => K (.v (.int .i64 r0)) []) fuel)
  | 0 => rfl
  | fuel + 1 => by
    have ih := runs_machine_beyond K fuel
    funext l n x7 x8
    refine (gstep_machine_beyond_2 _ K l n x7 x8).trans ?_
    rw [ih]
    rfl

def S_machine_beyond (l_machine_beyond : LT_machine_beyond) : Sum := ⟨[], fun {R} args ob K => match args, ob with
  | [.rd ⟨false, 3, (.int .i64), l⟩, .v (.int .i64 n)], [] => l_machine_beyond l n (fun r0 => K (.v (.int .i64 r0)) [])
  | _, _ => none⟩

theorem sound_machine_beyond : Sound Tryd.prog 46 (S_machine_beyond @l_machine_beyond) := by
  refine fn_sound (cuts := cuts_machine_beyond) (fn := Tryd.f46) (Γ := T_machine_beyond) wide right_T_machine_beyond Tryd.func46 fun {R} K r args ob h => ?_
  unfold S_machine_beyond at h
  dsimp only at h
  split at h
  · obtain ⟨n, hn⟩ := ok_machine_beyond _ _ _ h
    refine ⟨Nat.le_of_ble_eq_true (by kernel_rfl), n, (gentry_machine_beyond n K _ _).trans ?_⟩
    rw [(runs_machine_beyond K n)]
    exact hn
  · cases h

theorem call_machine_beyond : Callable Tryd.prog 46 := ⟨_, Tryd.func46, by kernel_rfl, by kernel_rfl⟩

def T_machine_Check (l_machine_beyond : LT_machine_beyond) (l_machine_head : LT_machine_head) : FuncId → Option Sum := (addS (addS G0 46 (S_machine_beyond @l_machine_beyond)) 45 (S_machine_head @l_machine_head))

theorem right_T_machine_Check : Right Tryd.prog (T_machine_Check @l_machine_beyond @l_machine_head) := (right_add (right_add right_G0 call_machine_beyond sound_machine_beyond) call_machine_head sound_machine_head)

abbrev cuts_machine_Check : Cuts := []

theorem gentry_machine_Check (l_machine_beyond : LT_machine_beyond) (l_machine_head : LT_machine_head) {R : Type} (K : AV → List O → Option R) (m m_1 m_2 m_3 : Int) (m_4 m_5 : List Int) :
    fnRun Tryd.prog (T_machine_Check @l_machine_beyond @l_machine_head) cuts_machine_Check Tryd.f29 0 [.agg [.v (.int .i64 m), .v (.int .i64 m_1), .v (.int .i64 m_2), .v (.int .i64 m_3), .rd ⟨false, 3, (.int .i64), m_4⟩, .rd ⟨false, 3, (.int .i64), m_5⟩]] [] K =
    (fun (m m_1 m_2 m_3 : Int) (m_4 m_5 : List Int) (K0 : Int → Int → Option R) =>
    l_machine_head m m_1 m_2 m_3 m_4 m_5
     (fun r1 =>
      bi (r1 != 0)
       (K0 0 r1)
       (l_machine_beyond m_4 m_3
        (fun r2 =>
         bi (decide (r2 ≥ 0))
          (K0 r2 32)
          (l_machine_beyond m_5 m_2
           (fun r3 =>
            bi (decide (r3 ≥ 0))
             (K0 r3 33)
             (K0 0 0))))))) m m_1 m_2 m_3 m_4 m_5 (fun r0 r1 => K (.tup [.v (.int .i64 r0), .v (.int .i64 r1)]) []) := by kernel_rfl

def S_machine_Check (l_machine_Check : LT_machine_Check) : Sum := ⟨[], fun {R} args ob K => match args, ob with
  | [.agg [.v (.int .i64 m), .v (.int .i64 m_1), .v (.int .i64 m_2), .v (.int .i64 m_3), .rd ⟨false, 3, (.int .i64), m_4⟩, .rd ⟨false, 3, (.int .i64), m_5⟩]], [] => l_machine_Check m m_1 m_2 m_3 m_4 m_5 (fun r0 r1 => K (.tup [.v (.int .i64 r0), .v (.int .i64 r1)]) [])
  | _, _ => none⟩

theorem sound_machine_Check : Sound Tryd.prog 29 (S_machine_Check @l_machine_Check) := by
  refine fn_sound (cuts := cuts_machine_Check) (fn := Tryd.f29) (Γ := (T_machine_Check @l_machine_beyond @l_machine_head)) wide right_T_machine_Check Tryd.func29 fun {R} K r args ob h => ?_
  unfold S_machine_Check at h
  dsimp only at h
  split at h
  · exact ⟨Nat.le_of_ble_eq_true (by kernel_rfl), 0, (gentry_machine_Check @l_machine_beyond @l_machine_head K _ _ _ _ _ _).trans h⟩
  · cases h

theorem call_machine_Check : Callable Tryd.prog 29 := ⟨_, Tryd.func29, by kernel_rfl, by kernel_rfl⟩


def S_text_Export (l_text_Export : LT_text_Export) : Sum := ⟨[], fun {R} args ob K => match args, ob with
  | [.agg [.v (.int .i64 m), .v (.int .i64 m_1), .v (.int .i64 m_2), .v (.int .i64 m_3), .rd ⟨false, 3, (.int .i64), m_4⟩, .rd ⟨false, 3, (.int .i64), m_5⟩]], [] => l_text_Export m m_1 m_2 m_3 m_4 m_5 (fun r0 r1 => K (.tup [.own 0, .v (.int .i64 r0)]) [.row ⟨true, 5, (.int .u8), r1⟩])
  | _, _ => none⟩

theorem sound_text_Export : Sound Tryd.prog 14 (S_text_Export @l_text_Export) := sound_export sound_machine_Check (fun k K O N nx ou h1 h2 KK => check_eq k K O N nx ou h1 h2 (fun r0 r1 => KK (.tup [.v (.int .i64 r0), .v (.int .i64 r1)]) []))

theorem call_text_Export : Callable Tryd.prog 14 := ⟨_, Tryd.func14, by kernel_rfl, by kernel_rfl⟩

def T_text_reader_want : FuncId → Option Sum := G0

theorem right_T_text_reader_want : Right Tryd.prog T_text_reader_want := right_G0

abbrev cuts_text_reader_want_none : Cuts := [(1, [0, 1, 4])]

abbrev sta_text_reader_want_none_1 (s : ByteArray) (i : Int) (o0 : List Int) (o0_1 : Int) : St := ⟨fr0 61 [(0, .ptr 0 0), (1, .v (.string s)), (4, .v (.int .i64 i))], [.box 77 [.rd ⟨false, 5, (.int .u8), o0⟩, .v (.int .i64 o0_1), .v (.nilIface)]]⟩

abbrev gt_text_reader_want_none_1 {R : Type} (g : List Item → St → Option R) : GT_text_reader_want_none_1 R := fun (s : ByteArray) (i : Int) (o0 : List Int) (o0_1 : Int) => g (at' Tryd.f50 1) (sta_text_reader_want_none_1 s i o0 o0_1)

theorem gstep_text_reader_want_none_1 {R : Type} (g : List Item → St → Option R) (K : AV → List O → Option R) (s : ByteArray) (i : Int) (o0 : List Int) (o0_1 : Int) :
    runSeg Tryd.prog T_text_reader_want cuts_text_reader_want_none 1 g (finish Tryd.prog Tryd.f50 1 K) (at' Tryd.f50 1) (sta_text_reader_want_none_1 s i o0 o0_1) =
    (fun (g50_1 : GT_text_reader_want_none_1 R) (K0 : (List Int) → Int → Int → Int → Option R) (K1 : (List Int) → Int → Option R) (s : ByteArray) (i : Int) (o0 : List Int) (o0_1 : Int) =>
    bi (decide (i < (s.size : Int)))
     (bi (o0_1 == (o0.length : Int))
      (K0 o0 o0_1 6 o0_1)
      (bi (decide (0 ≤ o0_1 ∧ o0_1 < ((o0.length : Nat) : Int)))
       (bi (decide (0 ≤ i ∧ i < ((s.size : Nat) : Int)))
        (bi ((o0.getD o0_1.toNat 0) != ((s.data.toList.getD i.toNat 0).toNat : Int))
         (K0 o0 o0_1 6 o0_1)
         (g50_1 s (IntKind.i64.wrap (i + 1)) o0 (IntKind.i64.wrap (o0_1 + 1))))
        none)
       none))
     (K1 o0 o0_1)) (gt_text_reader_want_none_1 g) (fun r0 r1 r2 r3 => K (.tup []) [.box 77 [.rd ⟨false, 5, (.int .u8), r0⟩, .v (.int .i64 r1), .ifc 79 (.ptr 1 0)], .box 83 [.v (.int .i64 r2), .v (.int .i64 r3)]]) (fun r0 r1 => K (.tup []) [.box 77 [.rd ⟨false, 5, (.int .u8), r0⟩, .v (.int .i64 r1), .v (.nilIface)]]) s i o0 o0_1 := by kernel_rfl

theorem gentry_text_reader_want_none {R : Type} (fuel : Nat) (K : AV → List O → Option R) (s : ByteArray) (o0 : List Int) (o0_1 : Int) :
    fnRun Tryd.prog T_text_reader_want cuts_text_reader_want_none Tryd.f50 fuel [.ptr 0 0, .v (.string s)] [.box 77 [.rd ⟨false, 5, (.int .u8), o0⟩, .v (.int .i64 o0_1), .v (.nilIface)]] K =
    (fun (g50_1 : GT_text_reader_want_none_1 R) (K0 : (List Int) → Int → Int → Int → Option R) (K1 : (List Int) → Int → Option R) (s : ByteArray) (o0 : List Int) (o0_1 : Int) =>
    g50_1 s 0 o0 o0_1) (gt_text_reader_want_none_1 (runO Tryd.prog T_text_reader_want cuts_text_reader_want_none 1 (finish Tryd.prog Tryd.f50 1 K) fuel)) (fun r0 r1 r2 r3 => K (.tup []) [.box 77 [.rd ⟨false, 5, (.int .u8), r0⟩, .v (.int .i64 r1), .ifc 79 (.ptr 1 0)], .box 83 [.v (.int .i64 r2), .v (.int .i64 r3)]]) (fun r0 r1 => K (.tup []) [.box 77 [.rd ⟨false, 5, (.int .u8), r0⟩, .v (.int .i64 r1), .v (.nilIface)]]) s o0 o0_1 := by kernel_rfl

theorem runs_text_reader_want_none {R : Type} (K : AV → List O → Option R) : ∀ fuel : Nat,
    (gt_text_reader_want_none_1 (runO Tryd.prog T_text_reader_want cuts_text_reader_want_none 1 (finish Tryd.prog Tryd.f50 1 K) fuel)) = (run_text_reader_want_none (fun r0 r1 r2 r3 => K (.tup []) [.box 77 [.rd ⟨false, 5, (.int .u8), r0⟩, .v (.int .i64 r1), .ifc 79 (.ptr 1 0)], .box 83 [.v (.int .i64 r2), .v (.int .i64 r3)]]) (fun r0 r1 => K (.tup []) [.box 77 [.rd ⟨false, 5, (.int .u8), r0⟩, .v (.int .i64 r1), .v (.nilIface)]]) fuel)
  | 0 => rfl
  | fuel + 1 => by
    have ih := runs_text_reader_want_none K fuel
    funext s i o0 o0_1
    refine (gstep_text_reader_want_none_1 _ K s i o0 o0_1).trans ?_
    rw [ih]
    rfl

abbrev cuts_text_reader_want_fault : Cuts := [(1, [0, 1, 4])]

abbrev sta_text_reader_want_fault_1 (s : ByteArray) (i : Int) (o0 : List Int) (o0_1 o1 o1_1 : Int) : St := ⟨fr0 61 [(0, .ptr 0 0), (1, .v (.string s)), (4, .v (.int .i64 i))], [.box 77 [.rd ⟨false, 5, (.int .u8), o0⟩, .v (.int .i64 o0_1), .ifc 79 (.ptr 1 0)], .box 83 [.v (.int .i64 o1), .v (.int .i64 o1_1)]]⟩

abbrev gt_text_reader_want_fault_1 {R : Type} (g : List Item → St → Option R) : GT_text_reader_want_fault_1 R := fun (s : ByteArray) (i : Int) (o0 : List Int) (o0_1 o1 o1_1 : Int) => g (at' Tryd.f50 1) (sta_text_reader_want_fault_1 s i o0 o0_1 o1 o1_1)

theorem gstep_text_reader_want_fault_1 {R : Type} (g : List Item → St → Option R) (K : AV → List O → Option R) (s : ByteArray) (i : Int) (o0 : List Int) (o0_1 o1 o1_1 : Int) :
    runSeg Tryd.prog T_text_reader_want cuts_text_reader_want_fault 2 g (finish Tryd.prog Tryd.f50 2 K) (at' Tryd.f50 1) (sta_text_reader_want_fault_1 s i o0 o0_1 o1 o1_1) =
    (fun (g50b_1 : GT_text_reader_want_fault_1 R) (K0 : (List Int) → Int → Int → Int → Option R) (s : ByteArray) (i : Int) (o0 : List Int) (o0_1 o1 o1_1 : Int) =>
    bi (decide (i < (s.size : Int)))
     (K0 o0 o0_1 o1 o1_1)
     (K0 o0 o0_1 o1 o1_1)) (gt_text_reader_want_fault_1 g) (fun r0 r1 r2 r3 => K (.tup []) [.box 77 [.rd ⟨false, 5, (.int .u8), r0⟩, .v (.int .i64 r1), .ifc 79 (.ptr 1 0)], .box 83 [.v (.int .i64 r2), .v (.int .i64 r3)]]) s i o0 o0_1 o1 o1_1 := by kernel_rfl

theorem gentry_text_reader_want_fault {R : Type} (fuel : Nat) (K : AV → List O → Option R) (s : ByteArray) (o0 : List Int) (o0_1 o1 o1_1 : Int) :
    fnRun Tryd.prog T_text_reader_want cuts_text_reader_want_fault Tryd.f50 fuel [.ptr 0 0, .v (.string s)] [.box 77 [.rd ⟨false, 5, (.int .u8), o0⟩, .v (.int .i64 o0_1), .ifc 79 (.ptr 1 0)], .box 83 [.v (.int .i64 o1), .v (.int .i64 o1_1)]] K =
    (fun (g50b_1 : GT_text_reader_want_fault_1 R) (K0 : (List Int) → Int → Int → Int → Option R) (s : ByteArray) (o0 : List Int) (o0_1 o1 o1_1 : Int) =>
    g50b_1 s 0 o0 o0_1 o1 o1_1) (gt_text_reader_want_fault_1 (runO Tryd.prog T_text_reader_want cuts_text_reader_want_fault 2 (finish Tryd.prog Tryd.f50 2 K) fuel)) (fun r0 r1 r2 r3 => K (.tup []) [.box 77 [.rd ⟨false, 5, (.int .u8), r0⟩, .v (.int .i64 r1), .ifc 79 (.ptr 1 0)], .box 83 [.v (.int .i64 r2), .v (.int .i64 r3)]]) s o0 o0_1 o1 o1_1 := by kernel_rfl

theorem runs_text_reader_want_fault {R : Type} (K : AV → List O → Option R) : ∀ fuel : Nat,
    (gt_text_reader_want_fault_1 (runO Tryd.prog T_text_reader_want cuts_text_reader_want_fault 2 (finish Tryd.prog Tryd.f50 2 K) fuel)) = (run_text_reader_want_fault (fun r0 r1 r2 r3 => K (.tup []) [.box 77 [.rd ⟨false, 5, (.int .u8), r0⟩, .v (.int .i64 r1), .ifc 79 (.ptr 1 0)], .box 83 [.v (.int .i64 r2), .v (.int .i64 r3)]]) fuel)
  | 0 => rfl
  | fuel + 1 => by
    have ih := runs_text_reader_want_fault K fuel
    funext s i o0 o0_1 o1 o1_1
    refine (gstep_text_reader_want_fault_1 _ K s i o0 o0_1 o1 o1_1).trans ?_
    rw [ih]
    rfl

def S_text_reader_want (l_text_reader_want_none : LT_text_reader_want_none) (l_text_reader_want_fault : LT_text_reader_want_fault) : Sum := ⟨[], fun {R} args ob K => match args, ob with
  | [.ptr 0 0, .v (.string s)], [.box 77 [.rd ⟨false, 5, (.int .u8), o0⟩, .v (.int .i64 o0_1), .v (.nilIface)]] => l_text_reader_want_none s o0 o0_1 (fun r0 r1 r2 r3 => K (.tup []) [.box 77 [.rd ⟨false, 5, (.int .u8), r0⟩, .v (.int .i64 r1), .ifc 79 (.ptr 1 0)], .box 83 [.v (.int .i64 r2), .v (.int .i64 r3)]]) (fun r0 r1 => K (.tup []) [.box 77 [.rd ⟨false, 5, (.int .u8), r0⟩, .v (.int .i64 r1), .v (.nilIface)]])
  | [.ptr 0 0, .v (.string s)], [.box 77 [.rd ⟨false, 5, (.int .u8), o0⟩, .v (.int .i64 o0_1), .ifc 79 (.ptr 1 0)], .box 83 [.v (.int .i64 o1), .v (.int .i64 o1_1)]] => l_text_reader_want_fault s o0 o0_1 o1 o1_1 (fun r0 r1 r2 r3 => K (.tup []) [.box 77 [.rd ⟨false, 5, (.int .u8), r0⟩, .v (.int .i64 r1), .ifc 79 (.ptr 1 0)], .box 83 [.v (.int .i64 r2), .v (.int .i64 r3)]])
  | _, _ => none⟩

theorem sound_text_reader_want : Sound Tryd.prog 50 (S_text_reader_want @l_text_reader_want_none @l_text_reader_want_fault) := by
  refine fn_sound (cuts := cuts_text_reader_want_none) (fn := Tryd.f50) (Γ := T_text_reader_want) wide right_T_text_reader_want Tryd.func50 fun {R} K r args ob h => ?_
  unfold S_text_reader_want at h
  dsimp only at h
  split at h
  · obtain ⟨n, hn⟩ := ok_text_reader_want_none _ _ _ _ _ h
    refine ⟨Nat.le_of_ble_eq_true (by kernel_rfl), n, (gentry_text_reader_want_none n K _ _ _).trans ?_⟩
    rw [(runs_text_reader_want_none K n)]
    exact hn
  · obtain ⟨n, hn⟩ := ok_text_reader_want_fault _ _ _ _ _ _ h
    refine ⟨Nat.le_of_ble_eq_true (by kernel_rfl), n, (gentry_text_reader_want_fault n K _ _ _ _ _).trans ?_⟩
    rw [(runs_text_reader_want_fault K n)]
    exact hn
  · cases h

theorem call_text_reader_want : Callable Tryd.prog 50 := ⟨_, Tryd.func50, by kernel_rfl, by kernel_rfl⟩

def T_text_Number : FuncId → Option Sum := G0

theorem right_T_text_Number : Right Tryd.prog T_text_Number := right_G0

abbrev cuts_text_Number : Cuts := [(4, [0, 1, 4, 7])]

abbrev sta_text_Number_4 (b : List Int) (vat n i : Int) : St := ⟨fr0 70 [(0, .rd ⟨false, 5, (.int .u8), b⟩), (1, .v (.int .i64 vat)), (4, .v (.int .i64 n)), (7, .v (.int .i64 i))], []⟩

abbrev gt_text_Number_4 {R : Type} (g : List Item → St → Option R) : GT_text_Number_4 R := fun (b : List Int) (vat n i : Int) => g (at' Tryd.f21 4) (sta_text_Number_4 b vat n i)

theorem gstep_text_Number_4 {R : Type} (g : List Item → St → Option R) (K : AV → List O → Option R) (b : List Int) (vat n i : Int) :
    runSeg Tryd.prog T_text_Number cuts_text_Number 0 g (finish Tryd.prog Tryd.f21 0 K) (at' Tryd.f21 4) (sta_text_Number_4 b vat n i) =
    (fun (g21_4 : GT_text_Number_4 R) (K0 : Int → Int → Int → Option R) (b : List Int) (vat n i : Int) =>
    bi (decide (i < (b.length : Int)))
     (bi (decide (0 ≤ i ∧ i < ((b.length : Nat) : Int)))
      (bi (decide ((b.getD i.toNat 0) ≥ 48))
       (bi (decide (0 ≤ i ∧ i < ((b.length : Nat) : Int)))
        (bi (decide ((b.getD i.toNat 0) ≤ 57))
         (bi ((IntKind.i64.wrap (i - vat)) == 4)
          (K0 0 i 6)
          (bi ((IntKind.i64.wrap (i - vat)) == 1)
           (bi (decide (0 ≤ vat ∧ vat < ((b.length : Nat) : Int)))
            (bi ((b.getD vat.toNat 0) == 48)
             (K0 0 i 6)
             (bi (decide (0 ≤ i ∧ i < ((b.length : Nat) : Int)))
              (g21_4 b vat (IntKind.i64.wrap ((IntKind.i64.wrap (10 * n)) + (IntKind.i64.wrap (IntKind.u8.wrap ((b.getD i.toNat 0) - 48))))) (IntKind.i64.wrap (i + 1)))
              none))
            none)
           (bi (decide (0 ≤ i ∧ i < ((b.length : Nat) : Int)))
            (g21_4 b vat (IntKind.i64.wrap ((IntKind.i64.wrap (10 * n)) + (IntKind.i64.wrap (IntKind.u8.wrap ((b.getD i.toNat 0) - 48))))) (IntKind.i64.wrap (i + 1)))
            none)))
         (bi (i == vat)
          (K0 0 vat 6)
          (K0 n i 0)))
        none)
       (bi (i == vat)
        (K0 0 vat 6)
        (K0 n i 0)))
      none)
     (bi (i == vat)
      (K0 0 vat 6)
      (K0 n i 0))) (gt_text_Number_4 g) (fun r0 r1 r2 => K (.tup [.v (.int .i64 r0), .v (.int .i64 r1), .v (.int .i64 r2)]) []) b vat n i := by kernel_rfl

theorem gentry_text_Number {R : Type} (fuel : Nat) (K : AV → List O → Option R) (b : List Int) (vat : Int) :
    fnRun Tryd.prog T_text_Number cuts_text_Number Tryd.f21 fuel [.rd ⟨false, 5, (.int .u8), b⟩, .v (.int .i64 vat)] [] K =
    (fun (g21_4 : GT_text_Number_4 R) (K0 : Int → Int → Int → Option R) (b : List Int) (vat : Int) =>
    bi (decide (vat < 0))
     (K0 0 0 1)
     (bi (decide (vat > (b.length : Int)))
      (K0 0 0 1)
      (g21_4 b vat 0 vat))) (gt_text_Number_4 (runO Tryd.prog T_text_Number cuts_text_Number 0 (finish Tryd.prog Tryd.f21 0 K) fuel)) (fun r0 r1 r2 => K (.tup [.v (.int .i64 r0), .v (.int .i64 r1), .v (.int .i64 r2)]) []) b vat := by kernel_rfl

theorem runs_text_Number {R : Type} (K : AV → List O → Option R) : ∀ fuel : Nat,
    (gt_text_Number_4 (runO Tryd.prog T_text_Number cuts_text_Number 0 (finish Tryd.prog Tryd.f21 0 K) fuel)) = (run_text_Number (fun r0 r1 r2 => K (.tup [.v (.int .i64 r0), .v (.int .i64 r1), .v (.int .i64 r2)]) []) fuel)
  | 0 => rfl
  | fuel + 1 => by
    have ih := runs_text_Number K fuel
    funext b vat n i
    refine (gstep_text_Number_4 _ K b vat n i).trans ?_
    rw [ih]
    rfl

def S_text_Number (l_text_Number : LT_text_Number) : Sum := ⟨[], fun {R} args ob K => match args, ob with
  | [.rd ⟨false, 5, (.int .u8), b⟩, .v (.int .i64 vat)], [] => l_text_Number b vat (fun r0 r1 r2 => K (.tup [.v (.int .i64 r0), .v (.int .i64 r1), .v (.int .i64 r2)]) [])
  | _, _ => none⟩

theorem sound_text_Number : Sound Tryd.prog 21 (S_text_Number @l_text_Number) := by
  refine fn_sound (cuts := cuts_text_Number) (fn := Tryd.f21) (Γ := T_text_Number) wide right_T_text_Number Tryd.func21 fun {R} K r args ob h => ?_
  unfold S_text_Number at h
  dsimp only at h
  split at h
  · obtain ⟨n, hn⟩ := ok_text_Number _ _ _ h
    refine ⟨Nat.le_of_ble_eq_true (by kernel_rfl), n, (gentry_text_Number n K _ _).trans ?_⟩
    rw [(runs_text_Number K n)]
    exact hn
  · cases h

theorem call_text_Number : Callable Tryd.prog 21 := ⟨_, Tryd.func21, by kernel_rfl, by kernel_rfl⟩

def T_text_reader_number (l_text_Number : LT_text_Number) : FuncId → Option Sum := (addS G0 21 (S_text_Number @l_text_Number))

theorem right_T_text_reader_number : Right Tryd.prog (T_text_reader_number @l_text_Number) := (right_add right_G0 call_text_Number sound_text_Number)

abbrev cuts_text_reader_number_fault : Cuts := []

theorem gentry_text_reader_number_fault (l_text_Number : LT_text_Number) {R : Type} (K : AV → List O → Option R) (low high kind : Int) (o0 : List Int) (o0_1 o1 o1_1 : Int) :
    fnRun Tryd.prog (T_text_reader_number @l_text_Number) cuts_text_reader_number_fault Tryd.f49 0 [.ptr 0 0, .v (.int .i64 low), .v (.int .i64 high), .v (.int .i64 kind)] [.box 77 [.rd ⟨false, 5, (.int .u8), o0⟩, .v (.int .i64 o0_1), .ifc 79 (.ptr 1 0)], .box 83 [.v (.int .i64 o1), .v (.int .i64 o1_1)]] K =
    (fun (low high kind : Int) (o0 : List Int) (o0_1 o1 o1_1 : Int) (K0 : Int → (List Int) → Int → Int → Int → Option R) =>
    K0 0 o0 o0_1 o1 o1_1) low high kind o0 o0_1 o1 o1_1 (fun r0 r1 r2 r3 r4 => K (.v (.int .i64 r0)) [.box 77 [.rd ⟨false, 5, (.int .u8), r1⟩, .v (.int .i64 r2), .ifc 79 (.ptr 1 0)], .box 83 [.v (.int .i64 r3), .v (.int .i64 r4)]]) := by kernel_rfl

abbrev cuts_text_reader_number_none : Cuts := []

theorem gentry_text_reader_number_none (l_text_Number : LT_text_Number) {R : Type} (K : AV → List O → Option R) (low high kind : Int) (o0 : List Int) (o0_1 : Int) :
    fnRun Tryd.prog (T_text_reader_number @l_text_Number) cuts_text_reader_number_none Tryd.f49 0 [.ptr 0 0, .v (.int .i64 low), .v (.int .i64 high), .v (.int .i64 kind)] [.box 77 [.rd ⟨false, 5, (.int .u8), o0⟩, .v (.int .i64 o0_1), .v (.nilIface)]] K =
    (fun (low high kind : Int) (o0 : List Int) (o0_1 : Int) (K0 : Int → (List Int) → Int → Int → Int → Option R) (K1 : Int → (List Int) → Int → Option R) =>
    l_text_Number o0 o0_1
     (fun r1 r2 r3 =>
      bi (r3 != 0)
       (K0 r1 o0 r2 r3 r2)
       (bi (decide (r1 < low))
        (K0 r1 o0 r2 kind o0_1)
        (bi (decide (r1 > high))
         (K0 r1 o0 r2 kind o0_1)
         (K1 r1 o0 r2))))) low high kind o0 o0_1 (fun r0 r1 r2 r3 r4 => K (.v (.int .i64 r0)) [.box 77 [.rd ⟨false, 5, (.int .u8), r1⟩, .v (.int .i64 r2), .ifc 79 (.ptr 1 0)], .box 83 [.v (.int .i64 r3), .v (.int .i64 r4)]]) (fun r0 r1 r2 => K (.v (.int .i64 r0)) [.box 77 [.rd ⟨false, 5, (.int .u8), r1⟩, .v (.int .i64 r2), .v (.nilIface)]]) := by kernel_rfl

def S_text_reader_number (l_text_reader_number_fault : LT_text_reader_number_fault) (l_text_reader_number_none : LT_text_reader_number_none) : Sum := ⟨[], fun {R} args ob K => match args, ob with
  | [.ptr 0 0, .v (.int .i64 low), .v (.int .i64 high), .v (.int .i64 kind)], [.box 77 [.rd ⟨false, 5, (.int .u8), o0⟩, .v (.int .i64 o0_1), .ifc 79 (.ptr 1 0)], .box 83 [.v (.int .i64 o1), .v (.int .i64 o1_1)]] => l_text_reader_number_fault low high kind o0 o0_1 o1 o1_1 (fun r0 r1 r2 r3 r4 => K (.v (.int .i64 r0)) [.box 77 [.rd ⟨false, 5, (.int .u8), r1⟩, .v (.int .i64 r2), .ifc 79 (.ptr 1 0)], .box 83 [.v (.int .i64 r3), .v (.int .i64 r4)]])
  | [.ptr 0 0, .v (.int .i64 low), .v (.int .i64 high), .v (.int .i64 kind)], [.box 77 [.rd ⟨false, 5, (.int .u8), o0⟩, .v (.int .i64 o0_1), .v (.nilIface)]] => l_text_reader_number_none low high kind o0 o0_1 (fun r0 r1 r2 r3 r4 => K (.v (.int .i64 r0)) [.box 77 [.rd ⟨false, 5, (.int .u8), r1⟩, .v (.int .i64 r2), .ifc 79 (.ptr 1 0)], .box 83 [.v (.int .i64 r3), .v (.int .i64 r4)]]) (fun r0 r1 r2 => K (.v (.int .i64 r0)) [.box 77 [.rd ⟨false, 5, (.int .u8), r1⟩, .v (.int .i64 r2), .v (.nilIface)]])
  | _, _ => none⟩

theorem sound_text_reader_number : Sound Tryd.prog 49 (S_text_reader_number @l_text_reader_number_fault @l_text_reader_number_none) := by
  refine fn_sound (cuts := cuts_text_reader_number_fault) (fn := Tryd.f49) (Γ := (T_text_reader_number @l_text_Number)) wide right_T_text_reader_number Tryd.func49 fun {R} K r args ob h => ?_
  unfold S_text_reader_number at h
  dsimp only at h
  split at h
  · exact ⟨Nat.le_of_ble_eq_true (by kernel_rfl), 0, (gentry_text_reader_number_fault @l_text_Number K _ _ _ _ _ _ _).trans h⟩
  · exact ⟨Nat.le_of_ble_eq_true (by kernel_rfl), 0, (gentry_text_reader_number_none @l_text_Number K _ _ _ _ _).trans h⟩
  · cases h

theorem call_text_reader_number : Callable Tryd.prog 49 := ⟨_, Tryd.func49, by kernel_rfl, by kernel_rfl⟩

def T_text_reader_read (l_text_reader_want_none : LT_text_reader_want_none) (l_text_reader_want_fault : LT_text_reader_want_fault) (l_text_reader_number_fault : LT_text_reader_number_fault) (l_text_reader_number_none : LT_text_reader_number_none) : FuncId → Option Sum := (addS (addS G0 50 (S_text_reader_want @l_text_reader_want_none @l_text_reader_want_fault)) 49 (S_text_reader_number @l_text_reader_number_fault @l_text_reader_number_none))

theorem right_T_text_reader_read : Right Tryd.prog (T_text_reader_read @l_text_reader_want_none @l_text_reader_want_fault @l_text_reader_number_fault @l_text_reader_number_none) := (right_add (right_add right_G0 call_text_reader_want sound_text_reader_want) call_text_reader_number sound_text_reader_number)

abbrev cuts_text_reader_read_none : Cuts := [(15, [0, 2, 3, 4, 5, 6]), (19, [0, 2, 3, 4, 5, 6]), (20, [0, 2, 3, 4, 5, 6, 7]), (21, [0, 2, 3, 4, 5, 6, 7]), (25, [0, 2, 3, 4, 5, 6, 7])]

abbrev sta_text_reader_read_none_15a (s : Int) (o0 : List Int) (o0_1 o1 o1_1 o2 o2_1 o2_2 o2_3 : Int) (o3 o4 : List Int) (o5 o5_1 o5_2 o5_3 : Int) (o6 o7 : List Int) : St := ⟨fr0 151 [(0, .ptr 0 0), (2, .ptr 2 0), (3, .ptr 5 0), (4, .bnd 49 [.ptr 0 0]), (5, .bnd 50 [.ptr 0 0]), (6, .v (.int .i64 s))], [.box 77 [.rd ⟨false, 5, (.int .u8), o0⟩, .v (.int .i64 o0_1), .ifc 79 (.ptr 1 0)], .box 83 [.v (.int .i64 o1), .v (.int .i64 o1_1)], .box 24 [.v (.int .i64 o2), .v (.int .i64 o2_1), .v (.int .i64 o2_2), .v (.int .i64 o2_3), .own 3, .own 4], .row ⟨true, 3, (.int .i64), o3⟩, .row ⟨true, 3, (.int .i64), o4⟩, .box 24 [.v (.int .i64 o5), .v (.int .i64 o5_1), .v (.int .i64 o5_2), .v (.int .i64 o5_3), .own 6, .own 7], .row ⟨true, 3, (.int .i64), o6⟩, .row ⟨true, 3, (.int .i64), o7⟩]⟩

abbrev gt_text_reader_read_none_15a {R : Type} (g : List Item → St → Option R) : GT_text_reader_read_none_15a R := fun (s : Int) (o0 : List Int) (o0_1 o1 o1_1 o2 o2_1 o2_2 o2_3 : Int) (o3 o4 : List Int) (o5 o5_1 o5_2 o5_3 : Int) (o6 o7 : List Int) => g (at' Tryd.f38 15) (sta_text_reader_read_none_15a s o0 o0_1 o1 o1_1 o2 o2_1 o2_2 o2_3 o3 o4 o5 o5_1 o5_2 o5_3 o6 o7)

abbrev sta_text_reader_read_none_15b (s : Int) (o0 : List Int) (o0_1 o1 o1_1 o1_2 o1_3 : Int) (o2 o3 : List Int) (o4 o4_1 o4_2 o4_3 : Int) (o5 o6 : List Int) : St := ⟨fr0 151 [(0, .ptr 0 0), (2, .ptr 1 0), (3, .ptr 4 0), (4, .bnd 49 [.ptr 0 0]), (5, .bnd 50 [.ptr 0 0]), (6, .v (.int .i64 s))], [.box 77 [.rd ⟨false, 5, (.int .u8), o0⟩, .v (.int .i64 o0_1), .v (.nilIface)], .box 24 [.v (.int .i64 o1), .v (.int .i64 o1_1), .v (.int .i64 o1_2), .v (.int .i64 o1_3), .own 2, .own 3], .row ⟨true, 3, (.int .i64), o2⟩, .row ⟨true, 3, (.int .i64), o3⟩, .box 24 [.v (.int .i64 o4), .v (.int .i64 o4_1), .v (.int .i64 o4_2), .v (.int .i64 o4_3), .own 5, .own 6], .row ⟨true, 3, (.int .i64), o5⟩, .row ⟨true, 3, (.int .i64), o6⟩]⟩

abbrev gt_text_reader_read_none_15b {R : Type} (g : List Item → St → Option R) : GT_text_reader_read_none_15b R := fun (s : Int) (o0 : List Int) (o0_1 o1 o1_1 o1_2 o1_3 : Int) (o2 o3 : List Int) (o4 o4_1 o4_2 o4_3 : Int) (o5 o6 : List Int) => g (at' Tryd.f38 15) (sta_text_reader_read_none_15b s o0 o0_1 o1 o1_1 o1_2 o1_3 o2 o3 o4 o4_1 o4_2 o4_3 o5 o6)

abbrev sta_text_reader_read_none_19a (s : Int) (o0 : List Int) (o0_1 o1 o1_1 o2 o2_1 o2_2 o2_3 : Int) (o3 o4 : List Int) (o5 o5_1 o5_2 o5_3 : Int) (o6 o7 : List Int) : St := ⟨fr0 151 [(0, .ptr 0 0), (2, .ptr 2 0), (3, .ptr 5 0), (4, .bnd 49 [.ptr 0 0]), (5, .bnd 50 [.ptr 0 0]), (6, .v (.int .i64 s))], [.box 77 [.rd ⟨false, 5, (.int .u8), o0⟩, .v (.int .i64 o0_1), .ifc 79 (.ptr 1 0)], .box 83 [.v (.int .i64 o1), .v (.int .i64 o1_1)], .box 24 [.v (.int .i64 o2), .v (.int .i64 o2_1), .v (.int .i64 o2_2), .v (.int .i64 o2_3), .own 3, .own 4], .row ⟨true, 3, (.int .i64), o3⟩, .row ⟨true, 3, (.int .i64), o4⟩, .box 24 [.v (.int .i64 o5), .v (.int .i64 o5_1), .v (.int .i64 o5_2), .v (.int .i64 o5_3), .own 6, .own 7], .row ⟨true, 3, (.int .i64), o6⟩, .row ⟨true, 3, (.int .i64), o7⟩]⟩

abbrev gt_text_reader_read_none_19a {R : Type} (g : List Item → St → Option R) : GT_text_reader_read_none_19a R := fun (s : Int) (o0 : List Int) (o0_1 o1 o1_1 o2 o2_1 o2_2 o2_3 : Int) (o3 o4 : List Int) (o5 o5_1 o5_2 o5_3 : Int) (o6 o7 : List Int) => g (at' Tryd.f38 19) (sta_text_reader_read_none_19a s o0 o0_1 o1 o1_1 o2 o2_1 o2_2 o2_3 o3 o4 o5 o5_1 o5_2 o5_3 o6 o7)

abbrev sta_text_reader_read_none_19b (s : Int) (o0 : List Int) (o0_1 o1 o1_1 o1_2 o1_3 : Int) (o2 o3 : List Int) (o4 o4_1 o4_2 o4_3 : Int) (o5 o6 : List Int) : St := ⟨fr0 151 [(0, .ptr 0 0), (2, .ptr 1 0), (3, .ptr 4 0), (4, .bnd 49 [.ptr 0 0]), (5, .bnd 50 [.ptr 0 0]), (6, .v (.int .i64 s))], [.box 77 [.rd ⟨false, 5, (.int .u8), o0⟩, .v (.int .i64 o0_1), .v (.nilIface)], .box 24 [.v (.int .i64 o1), .v (.int .i64 o1_1), .v (.int .i64 o1_2), .v (.int .i64 o1_3), .own 2, .own 3], .row ⟨true, 3, (.int .i64), o2⟩, .row ⟨true, 3, (.int .i64), o3⟩, .box 24 [.v (.int .i64 o4), .v (.int .i64 o4_1), .v (.int .i64 o4_2), .v (.int .i64 o4_3), .own 5, .own 6], .row ⟨true, 3, (.int .i64), o5⟩, .row ⟨true, 3, (.int .i64), o6⟩]⟩

abbrev gt_text_reader_read_none_19b {R : Type} (g : List Item → St → Option R) : GT_text_reader_read_none_19b R := fun (s : Int) (o0 : List Int) (o0_1 o1 o1_1 o1_2 o1_3 : Int) (o2 o3 : List Int) (o4 o4_1 o4_2 o4_3 : Int) (o5 o6 : List Int) => g (at' Tryd.f38 19) (sta_text_reader_read_none_19b s o0 o0_1 o1 o1_1 o1_2 o1_3 o2 o3 o4 o4_1 o4_2 o4_3 o5 o6)

abbrev sta_text_reader_read_none_20a (s x : Int) (o0 : List Int) (o0_1 o1 o1_1 o2 o2_1 o2_2 o2_3 : Int) (o3 o4 : List Int) (o5 o5_1 o5_2 o5_3 : Int) (o6 o7 : List Int) : St := ⟨fr0 151 [(0, .ptr 0 0), (2, .ptr 2 0), (3, .ptr 5 0), (4, .bnd 49 [.ptr 0 0]), (5, .bnd 50 [.ptr 0 0]), (6, .v (.int .i64 s)), (7, .v (.int .i64 x))], [.box 77 [.rd ⟨false, 5, (.int .u8), o0⟩, .v (.int .i64 o0_1), .ifc 79 (.ptr 1 0)], .box 83 [.v (.int .i64 o1), .v (.int .i64 o1_1)], .box 24 [.v (.int .i64 o2), .v (.int .i64 o2_1), .v (.int .i64 o2_2), .v (.int .i64 o2_3), .own 3, .own 4], .row ⟨true, 3, (.int .i64), o3⟩, .row ⟨true, 3, (.int .i64), o4⟩, .box 24 [.v (.int .i64 o5), .v (.int .i64 o5_1), .v (.int .i64 o5_2), .v (.int .i64 o5_3), .own 6, .own 7], .row ⟨true, 3, (.int .i64), o6⟩, .row ⟨true, 3, (.int .i64), o7⟩]⟩

abbrev gt_text_reader_read_none_20a {R : Type} (g : List Item → St → Option R) : GT_text_reader_read_none_20a R := fun (s x : Int) (o0 : List Int) (o0_1 o1 o1_1 o2 o2_1 o2_2 o2_3 : Int) (o3 o4 : List Int) (o5 o5_1 o5_2 o5_3 : Int) (o6 o7 : List Int) => g (at' Tryd.f38 20) (sta_text_reader_read_none_20a s x o0 o0_1 o1 o1_1 o2 o2_1 o2_2 o2_3 o3 o4 o5 o5_1 o5_2 o5_3 o6 o7)

abbrev sta_text_reader_read_none_20b (s x : Int) (o0 : List Int) (o0_1 o1 o1_1 o1_2 o1_3 : Int) (o2 o3 : List Int) (o4 o4_1 o4_2 o4_3 : Int) (o5 o6 : List Int) : St := ⟨fr0 151 [(0, .ptr 0 0), (2, .ptr 1 0), (3, .ptr 4 0), (4, .bnd 49 [.ptr 0 0]), (5, .bnd 50 [.ptr 0 0]), (6, .v (.int .i64 s)), (7, .v (.int .i64 x))], [.box 77 [.rd ⟨false, 5, (.int .u8), o0⟩, .v (.int .i64 o0_1), .v (.nilIface)], .box 24 [.v (.int .i64 o1), .v (.int .i64 o1_1), .v (.int .i64 o1_2), .v (.int .i64 o1_3), .own 2, .own 3], .row ⟨true, 3, (.int .i64), o2⟩, .row ⟨true, 3, (.int .i64), o3⟩, .box 24 [.v (.int .i64 o4), .v (.int .i64 o4_1), .v (.int .i64 o4_2), .v (.int .i64 o4_3), .own 5, .own 6], .row ⟨true, 3, (.int .i64), o5⟩, .row ⟨true, 3, (.int .i64), o6⟩]⟩

abbrev gt_text_reader_read_none_20b {R : Type} (g : List Item → St → Option R) : GT_text_reader_read_none_20b R := fun (s x : Int) (o0 : List Int) (o0_1 o1 o1_1 o1_2 o1_3 : Int) (o2 o3 : List Int) (o4 o4_1 o4_2 o4_3 : Int) (o5 o6 : List Int) => g (at' Tryd.f38 20) (sta_text_reader_read_none_20b s x o0 o0_1 o1 o1_1 o1_2 o1_3 o2 o3 o4 o4_1 o4_2 o4_3 o5 o6)

abbrev sta_text_reader_read_none_25a (s x : Int) (o0 : List Int) (o0_1 o1 o1_1 o2 o2_1 o2_2 o2_3 : Int) (o3 o4 : List Int) (o5 o5_1 o5_2 o5_3 : Int) (o6 o7 : List Int) : St := ⟨fr0 151 [(0, .ptr 0 0), (2, .ptr 2 0), (3, .ptr 5 0), (4, .bnd 49 [.ptr 0 0]), (5, .bnd 50 [.ptr 0 0]), (6, .v (.int .i64 s)), (7, .v (.int .i64 x))], [.box 77 [.rd ⟨false, 5, (.int .u8), o0⟩, .v (.int .i64 o0_1), .ifc 79 (.ptr 1 0)], .box 83 [.v (.int .i64 o1), .v (.int .i64 o1_1)], .box 24 [.v (.int .i64 o2), .v (.int .i64 o2_1), .v (.int .i64 o2_2), .v (.int .i64 o2_3), .own 3, .own 4], .row ⟨true, 3, (.int .i64), o3⟩, .row ⟨true, 3, (.int .i64), o4⟩, .box 24 [.v (.int .i64 o5), .v (.int .i64 o5_1), .v (.int .i64 o5_2), .v (.int .i64 o5_3), .own 6, .own 7], .row ⟨true, 3, (.int .i64), o6⟩, .row ⟨true, 3, (.int .i64), o7⟩]⟩

abbrev gt_text_reader_read_none_25a {R : Type} (g : List Item → St → Option R) : GT_text_reader_read_none_25a R := fun (s x : Int) (o0 : List Int) (o0_1 o1 o1_1 o2 o2_1 o2_2 o2_3 : Int) (o3 o4 : List Int) (o5 o5_1 o5_2 o5_3 : Int) (o6 o7 : List Int) => g (at' Tryd.f38 25) (sta_text_reader_read_none_25a s x o0 o0_1 o1 o1_1 o2 o2_1 o2_2 o2_3 o3 o4 o5 o5_1 o5_2 o5_3 o6 o7)

abbrev sta_text_reader_read_none_25b (s x : Int) (o0 : List Int) (o0_1 o1 o1_1 o1_2 o1_3 : Int) (o2 o3 : List Int) (o4 o4_1 o4_2 o4_3 : Int) (o5 o6 : List Int) : St := ⟨fr0 151 [(0, .ptr 0 0), (2, .ptr 1 0), (3, .ptr 4 0), (4, .bnd 49 [.ptr 0 0]), (5, .bnd 50 [.ptr 0 0]), (6, .v (.int .i64 s)), (7, .v (.int .i64 x))], [.box 77 [.rd ⟨false, 5, (.int .u8), o0⟩, .v (.int .i64 o0_1), .v (.nilIface)], .box 24 [.v (.int .i64 o1), .v (.int .i64 o1_1), .v (.int .i64 o1_2), .v (.int .i64 o1_3), .own 2, .own 3], .row ⟨true, 3, (.int .i64), o2⟩, .row ⟨true, 3, (.int .i64), o3⟩, .box 24 [.v (.int .i64 o4), .v (.int .i64 o4_1), .v (.int .i64 o4_2), .v (.int .i64 o4_3), .own 5, .own 6], .row ⟨true, 3, (.int .i64), o5⟩, .row ⟨true, 3, (.int .i64), o6⟩]⟩

abbrev gt_text_reader_read_none_25b {R : Type} (g : List Item → St → Option R) : GT_text_reader_read_none_25b R := fun (s x : Int) (o0 : List Int) (o0_1 o1 o1_1 o1_2 o1_3 : Int) (o2 o3 : List Int) (o4 o4_1 o4_2 o4_3 : Int) (o5 o6 : List Int) => g (at' Tryd.f38 25) (sta_text_reader_read_none_25b s x o0 o0_1 o1 o1_1 o1_2 o1_3 o2 o3 o4 o4_1 o4_2 o4_3 o5 o6)

abbrev sta_text_reader_read_none_21a (s x : Int) (o0 : List Int) (o0_1 o1 o1_1 o2 o2_1 o2_2 o2_3 : Int) (o3 o4 : List Int) (o5 o5_1 o5_2 o5_3 : Int) (o6 o7 : List Int) : St := ⟨fr0 151 [(0, .ptr 0 0), (2, .ptr 2 0), (3, .ptr 5 0), (4, .bnd 49 [.ptr 0 0]), (5, .bnd 50 [.ptr 0 0]), (6, .v (.int .i64 s)), (7, .v (.int .i64 x))], [.box 77 [.rd ⟨false, 5, (.int .u8), o0⟩, .v (.int .i64 o0_1), .ifc 79 (.ptr 1 0)], .box 83 [.v (.int .i64 o1), .v (.int .i64 o1_1)], .box 24 [.v (.int .i64 o2), .v (.int .i64 o2_1), .v (.int .i64 o2_2), .v (.int .i64 o2_3), .own 3, .own 4], .row ⟨true, 3, (.int .i64), o3⟩, .row ⟨true, 3, (.int .i64), o4⟩, .box 24 [.v (.int .i64 o5), .v (.int .i64 o5_1), .v (.int .i64 o5_2), .v (.int .i64 o5_3), .own 6, .own 7], .row ⟨true, 3, (.int .i64), o6⟩, .row ⟨true, 3, (.int .i64), o7⟩]⟩

abbrev gt_text_reader_read_none_21a {R : Type} (g : List Item → St → Option R) : GT_text_reader_read_none_21a R := fun (s x : Int) (o0 : List Int) (o0_1 o1 o1_1 o2 o2_1 o2_2 o2_3 : Int) (o3 o4 : List Int) (o5 o5_1 o5_2 o5_3 : Int) (o6 o7 : List Int) => g (at' Tryd.f38 21) (sta_text_reader_read_none_21a s x o0 o0_1 o1 o1_1 o2 o2_1 o2_2 o2_3 o3 o4 o5 o5_1 o5_2 o5_3 o6 o7)

abbrev sta_text_reader_read_none_21b (s x : Int) (o0 : List Int) (o0_1 o1 o1_1 o1_2 o1_3 : Int) (o2 o3 : List Int) (o4 o4_1 o4_2 o4_3 : Int) (o5 o6 : List Int) : St := ⟨fr0 151 [(0, .ptr 0 0), (2, .ptr 1 0), (3, .ptr 4 0), (4, .bnd 49 [.ptr 0 0]), (5, .bnd 50 [.ptr 0 0]), (6, .v (.int .i64 s)), (7, .v (.int .i64 x))], [.box 77 [.rd ⟨false, 5, (.int .u8), o0⟩, .v (.int .i64 o0_1), .v (.nilIface)], .box 24 [.v (.int .i64 o1), .v (.int .i64 o1_1), .v (.int .i64 o1_2), .v (.int .i64 o1_3), .own 2, .own 3], .row ⟨true, 3, (.int .i64), o2⟩, .row ⟨true, 3, (.int .i64), o3⟩, .box 24 [.v (.int .i64 o4), .v (.int .i64 o4_1), .v (.int .i64 o4_2), .v (.int .i64 o4_3), .own 5, .own 6], .row ⟨true, 3, (.int .i64), o5⟩, .row ⟨true, 3, (.int .i64), o6⟩]⟩

abbrev gt_text_reader_read_none_21b {R : Type} (g : List Item → St → Option R) : GT_text_reader_read_none_21b R := fun (s x : Int) (o0 : List Int) (o0_1 o1 o1_1 o1_2 o1_3 : Int) (o2 o3 : List Int) (o4 o4_1 o4_2 o4_3 : Int) (o5 o6 : List Int) => g (at' Tryd.f38 21) (sta_text_reader_read_none_21b s x o0 o0_1 o1 o1_1 o1_2 o1_3 o2 o3 o4 o4_1 o4_2 o4_3 o5 o6)

theorem gstep_text_reader_read_none_15a (l_text_reader_want_none : LT_text_reader_want_none) (l_text_reader_want_fault : LT_text_reader_want_fault) (l_text_reader_number_fault : LT_text_reader_number_fault) (l_text_reader_number_none : LT_text_reader_number_none) {R : Type} (g : List Item → St → Option R) (K : AV → List O → Option R) (s : Int) (o0 : List Int) (o0_1 o1 o1_1 o2 o2_1 o2_2 o2_3 : Int) (o3 o4 : List Int) (o5 o5_1 o5_2 o5_3 : Int) (o6 o7 : List Int) :
    runSeg Tryd.prog (T_text_reader_read @l_text_reader_want_none @l_text_reader_want_fault @l_text_reader_number_fault @l_text_reader_number_none) cuts_text_reader_read_none 1 g (finish Tryd.prog Tryd.f38 1 K) (at' Tryd.f38 15) (sta_text_reader_read_none_15a s o0 o0_1 o1 o1_1 o2 o2_1 o2_2 o2_3 o3 o4 o5 o5_1 o5_2 o5_3 o6 o7) =
    (fun (g38_15 : GT_text_reader_read_none_15a R) (g38_15b : GT_text_reader_read_none_15b R) (g38_19 : GT_text_reader_read_none_19a R) (g38_19b : GT_text_reader_read_none_19b R) (g38_20 : GT_text_reader_read_none_20a R) (g38_20b : GT_text_reader_read_none_20b R) (g38_25 : GT_text_reader_read_none_25a R) (g38_25b : GT_text_reader_read_none_25b R) (g38_21 : GT_text_reader_read_none_21a R) (g38_21b : GT_text_reader_read_none_21b R) (K0 : Int → Int → Int → Int → (List Int) → Int → Int → Int → (List Int) → (List Int) → Option R) (K1 : Int → Int → Int → Int → (List Int) → Int → (List Int) → (List Int) → Option R) (s : Int) (o0 : List Int) (o0_1 o1 o1_1 o2 o2_1 o2_2 o2_3 : Int) (o3 o4 : List Int) (o5 o5_1 o5_2 o5_3 : Int) (o6 o7 : List Int) =>
    bi (decide (s < o5_3))
     (K0 o5 o5_1 o5_2 o5_3 o0 o0_1 o1 o1_1 o6 o7)
     (K0 o5 o5_1 o5_2 o5_3 o0 o0_1 o1 o1_1 o6 o7)) (gt_text_reader_read_none_15a g) (gt_text_reader_read_none_15b g) (gt_text_reader_read_none_19a g) (gt_text_reader_read_none_19b g) (gt_text_reader_read_none_20a g) (gt_text_reader_read_none_20b g) (gt_text_reader_read_none_25a g) (gt_text_reader_read_none_25b g) (gt_text_reader_read_none_21a g) (gt_text_reader_read_none_21b g) (fun r0 r1 r2 r3 r4 r5 r6 r7 r8 r9 => K (.agg [.v (.int .i64 r0), .v (.int .i64 r1), .v (.int .i64 r2), .v (.int .i64 r3), .own 2, .own 3]) [.box 77 [.rd ⟨false, 5, (.int .u8), r4⟩, .v (.int .i64 r5), .ifc 79 (.ptr 1 0)], .box 83 [.v (.int .i64 r6), .v (.int .i64 r7)], .row ⟨true, 3, (.int .i64), r8⟩, .row ⟨true, 3, (.int .i64), r9⟩]) (fun r0 r1 r2 r3 r4 r5 r6 r7 => K (.agg [.v (.int .i64 r0), .v (.int .i64 r1), .v (.int .i64 r2), .v (.int .i64 r3), .own 1, .own 2]) [.box 77 [.rd ⟨false, 5, (.int .u8), r4⟩, .v (.int .i64 r5), .v (.nilIface)], .row ⟨true, 3, (.int .i64), r6⟩, .row ⟨true, 3, (.int .i64), r7⟩]) s o0 o0_1 o1 o1_1 o2 o2_1 o2_2 o2_3 o3 o4 o5 o5_1 o5_2 o5_3 o6 o7 := by kernel_rfl

theorem gstep_text_reader_read_none_15b (l_text_reader_want_none : LT_text_reader_want_none) (l_text_reader_want_fault : LT_text_reader_want_fault) (l_text_reader_number_fault : LT_text_reader_number_fault) (l_text_reader_number_none : LT_text_reader_number_none) {R : Type} (g : List Item → St → Option R) (K : AV → List O → Option R) (s : Int) (o0 : List Int) (o0_1 o1 o1_1 o1_2 o1_3 : Int) (o2 o3 : List Int) (o4 o4_1 o4_2 o4_3 : Int) (o5 o6 : List Int) :
    runSeg Tryd.prog (T_text_reader_read @l_text_reader_want_none @l_text_reader_want_fault @l_text_reader_number_fault @l_text_reader_number_none) cuts_text_reader_read_none 1 g (finish Tryd.prog Tryd.f38 1 K) (at' Tryd.f38 15) (sta_text_reader_read_none_15b s o0 o0_1 o1 o1_1 o1_2 o1_3 o2 o3 o4 o4_1 o4_2 o4_3 o5 o6) =
    (fun (g38_15 : GT_text_reader_read_none_15a R) (g38_15b : GT_text_reader_read_none_15b R) (g38_19 : GT_text_reader_read_none_19a R) (g38_19b : GT_text_reader_read_none_19b R) (g38_20 : GT_text_reader_read_none_20a R) (g38_20b : GT_text_reader_read_none_20b R) (g38_25 : GT_text_reader_read_none_25a R) (g38_25b : GT_text_reader_read_none_25b R) (g38_21 : GT_text_reader_read_none_21a R) (g38_21b : GT_text_reader_read_none_21b R) (K0 : Int → Int → Int → Int → (List Int) → Int → Int → Int → (List Int) → (List Int) → Option R) (K1 : Int → Int → Int → Int → (List Int) → Int → (List Int) → (List Int) → Option R) (s : Int) (o0 : List Int) (o0_1 o1 o1_1 o1_2 o1_3 : Int) (o2 o3 : List Int) (o4 o4_1 o4_2 o4_3 : Int) (o5 o6 : List Int) =>
    bi (decide (s < o4_3))
     (bi (o4 == 1)
      (both
       (l_text_reader_number_none 0 1 33 o0 o0_1
        (fun r298 r299 r300 r301 r302 =>
         bi (decide ((o6.length + [r298].length) * 8 ≤ lim))
          (g38_19 s r299 r300 r301 r302 o1 o1_1 o1_2 o1_3 o2 o3 o4 o4_1 o4_2 o4_3 o5 (o6 ++ [r298]))
          none)
        (fun r303 r304 r305 =>
         bi (decide ((o6.length + [r303].length) * 8 ≤ lim))
          (g38_19b s r304 r305 o1 o1_1 o1_2 o1_3 o2 o3 o4 o4_1 o4_2 o4_3 o5 (o6 ++ [r303]))
          none))
       (l_text_reader_number_none 0 1 33 o0 o0_1
        (fun r298 r299 r300 r301 r302 =>
         twice
          (bi (decide ((o6.length + [r298].length) * 8 ≤ lim))
           (g38_19 s r299 r300 r301 r302 o1 o1_1 o1_2 o1_3 o2 o3 o4 o4_1 o4_2 o4_3 o5 (o6 ++ [r298]))
           none))
        (fun r303 r304 r305 =>
         twice
          (bi (decide ((o6.length + [r303].length) * 8 ≤ lim))
           (g38_19b s r304 r305 o1 o1_1 o1_2 o1_3 o2 o3 o4 o4_1 o4_2 o4_3 o5 (o6 ++ [r303]))
           none))))
      (g38_19b s o0 o0_1 o1 o1_1 o1_2 o1_3 o2 o3 o4 o4_1 o4_2 o4_3 o5 o6))
     (bi (decide (o0_1 < (o0.length : Int)))
      (K0 o4 o4_1 o4_2 o4_3 o0 o0_1 6 o0_1 o5 o6)
      (K1 o4 o4_1 o4_2 o4_3 o0 o0_1 o5 o6))) (gt_text_reader_read_none_15a g) (gt_text_reader_read_none_15b g) (gt_text_reader_read_none_19a g) (gt_text_reader_read_none_19b g) (gt_text_reader_read_none_20a g) (gt_text_reader_read_none_20b g) (gt_text_reader_read_none_25a g) (gt_text_reader_read_none_25b g) (gt_text_reader_read_none_21a g) (gt_text_reader_read_none_21b g) (fun r0 r1 r2 r3 r4 r5 r6 r7 r8 r9 => K (.agg [.v (.int .i64 r0), .v (.int .i64 r1), .v (.int .i64 r2), .v (.int .i64 r3), .own 2, .own 3]) [.box 77 [.rd ⟨false, 5, (.int .u8), r4⟩, .v (.int .i64 r5), .ifc 79 (.ptr 1 0)], .box 83 [.v (.int .i64 r6), .v (.int .i64 r7)], .row ⟨true, 3, (.int .i64), r8⟩, .row ⟨true, 3, (.int .i64), r9⟩]) (fun r0 r1 r2 r3 r4 r5 r6 r7 => K (.agg [.v (.int .i64 r0), .v (.int .i64 r1), .v (.int .i64 r2), .v (.int .i64 r3), .own 1, .own 2]) [.box 77 [.rd ⟨false, 5, (.int .u8), r4⟩, .v (.int .i64 r5), .v (.nilIface)], .row ⟨true, 3, (.int .i64), r6⟩, .row ⟨true, 3, (.int .i64), r7⟩]) s o0 o0_1 o1 o1_1 o1_2 o1_3 o2 o3 o4 o4_1 o4_2 o4_3 o5 o6 := by kernel_rfl

theorem gstep_text_reader_read_none_19a (l_text_reader_want_none : LT_text_reader_want_none) (l_text_reader_want_fault : LT_text_reader_want_fault) (l_text_reader_number_fault : LT_text_reader_number_fault) (l_text_reader_number_none : LT_text_reader_number_none) {R : Type} (g : List Item → St → Option R) (K : AV → List O → Option R) (s : Int) (o0 : List Int) (o0_1 o1 o1_1 o2 o2_1 o2_2 o2_3 : Int) (o3 o4 : List Int) (o5 o5_1 o5_2 o5_3 : Int) (o6 o7 : List Int) :
    runSeg Tryd.prog (T_text_reader_read @l_text_reader_want_none @l_text_reader_want_fault @l_text_reader_number_fault @l_text_reader_number_none) cuts_text_reader_read_none 1 g (finish Tryd.prog Tryd.f38 1 K) (at' Tryd.f38 19) (sta_text_reader_read_none_19a s o0 o0_1 o1 o1_1 o2 o2_1 o2_2 o2_3 o3 o4 o5 o5_1 o5_2 o5_3 o6 o7) =
    (fun (g38_15 : GT_text_reader_read_none_15a R) (g38_15b : GT_text_reader_read_none_15b R) (g38_19 : GT_text_reader_read_none_19a R) (g38_19b : GT_text_reader_read_none_19b R) (g38_20 : GT_text_reader_read_none_20a R) (g38_20b : GT_text_reader_read_none_20b R) (g38_25 : GT_text_reader_read_none_25a R) (g38_25b : GT_text_reader_read_none_25b R) (g38_21 : GT_text_reader_read_none_21a R) (g38_21b : GT_text_reader_read_none_21b R) (K0 : Int → Int → Int → Int → (List Int) → Int → Int → Int → (List Int) → (List Int) → Option R) (K1 : Int → Int → Int → Int → (List Int) → Int → (List Int) → (List Int) → Option R) (s : Int) (o0 : List Int) (o0_1 o1 o1_1 o2 o2_1 o2_2 o2_3 : Int) (o3 o4 : List Int) (o5 o5_1 o5_2 o5_3 : Int) (o6 o7 : List Int) =>
    g38_20 s 0 o0 o0_1 o1 o1_1 o2 o2_1 o2_2 o2_3 o3 o4 o5 o5_1 o5_2 o5_3 o6 o7) (gt_text_reader_read_none_15a g) (gt_text_reader_read_none_15b g) (gt_text_reader_read_none_19a g) (gt_text_reader_read_none_19b g) (gt_text_reader_read_none_20a g) (gt_text_reader_read_none_20b g) (gt_text_reader_read_none_25a g) (gt_text_reader_read_none_25b g) (gt_text_reader_read_none_21a g) (gt_text_reader_read_none_21b g) (fun r0 r1 r2 r3 r4 r5 r6 r7 r8 r9 => K (.agg [.v (.int .i64 r0), .v (.int .i64 r1), .v (.int .i64 r2), .v (.int .i64 r3), .own 2, .own 3]) [.box 77 [.rd ⟨false, 5, (.int .u8), r4⟩, .v (.int .i64 r5), .ifc 79 (.ptr 1 0)], .box 83 [.v (.int .i64 r6), .v (.int .i64 r7)], .row ⟨true, 3, (.int .i64), r8⟩, .row ⟨true, 3, (.int .i64), r9⟩]) (fun r0 r1 r2 r3 r4 r5 r6 r7 => K (.agg [.v (.int .i64 r0), .v (.int .i64 r1), .v (.int .i64 r2), .v (.int .i64 r3), .own 1, .own 2]) [.box 77 [.rd ⟨false, 5, (.int .u8), r4⟩, .v (.int .i64 r5), .v (.nilIface)], .row ⟨true, 3, (.int .i64), r6⟩, .row ⟨true, 3, (.int .i64), r7⟩]) s o0 o0_1 o1 o1_1 o2 o2_1 o2_2 o2_3 o3 o4 o5 o5_1 o5_2 o5_3 o6 o7 := by kernel_rfl

theorem gstep_text_reader_read_none_19b (l_text_reader_want_none : LT_text_reader_want_none) (l_text_reader_want_fault : LT_text_reader_want_fault) (l_text_reader_number_fault : LT_text_reader_number_fault) (l_text_reader_number_none : LT_text_reader_number_none) {R : Type} (g : List Item → St → Option R) (K : AV → List O → Option R) (s : Int) (o0 : List Int) (o0_1 o1 o1_1 o1_2 o1_3 : Int) (o2 o3 : List Int) (o4 o4_1 o4_2 o4_3 : Int) (o5 o6 : List Int) :
    runSeg Tryd.prog (T_text_reader_read @l_text_reader_want_none @l_text_reader_want_fault @l_text_reader_number_fault @l_text_reader_number_none) cuts_text_reader_read_none 1 g (finish Tryd.prog Tryd.f38 1 K) (at' Tryd.f38 19) (sta_text_reader_read_none_19b s o0 o0_1 o1 o1_1 o1_2 o1_3 o2 o3 o4 o4_1 o4_2 o4_3 o5 o6) =
    (fun (g38_15 : GT_text_reader_read_none_15a R) (g38_15b : GT_text_reader_read_none_15b R) (g38_19 : GT_text_reader_read_none_19a R) (g38_19b : GT_text_reader_read_none_19b R) (g38_20 : GT_text_reader_read_none_20a R) (g38_20b : GT_text_reader_read_none_20b R) (g38_25 : GT_text_reader_read_none_25a R) (g38_25b : GT_text_reader_read_none_25b R) (g38_21 : GT_text_reader_read_none_21a R) (g38_21b : GT_text_reader_read_none_21b R) (K0 : Int → Int → Int → Int → (List Int) → Int → Int → Int → (List Int) → (List Int) → Option R) (K1 : Int → Int → Int → Int → (List Int) → Int → (List Int) → (List Int) → Option R) (s : Int) (o0 : List Int) (o0_1 o1 o1_1 o1_2 o1_3 : Int) (o2 o3 : List Int) (o4 o4_1 o4_2 o4_3 : Int) (o5 o6 : List Int) =>
    g38_20b s 0 o0 o0_1 o1 o1_1 o1_2 o1_3 o2 o3 o4 o4_1 o4_2 o4_3 o5 o6) (gt_text_reader_read_none_15a g) (gt_text_reader_read_none_15b g) (gt_text_reader_read_none_19a g) (gt_text_reader_read_none_19b g) (gt_text_reader_read_none_20a g) (gt_text_reader_read_none_20b g) (gt_text_reader_read_none_25a g) (gt_text_reader_read_none_25b g) (gt_text_reader_read_none_21a g) (gt_text_reader_read_none_21b g) (fun r0 r1 r2 r3 r4 r5 r6 r7 r8 r9 => K (.agg [.v (.int .i64 r0), .v (.int .i64 r1), .v (.int .i64 r2), .v (.int .i64 r3), .own 2, .own 3]) [.box 77 [.rd ⟨false, 5, (.int .u8), r4⟩, .v (.int .i64 r5), .ifc 79 (.ptr 1 0)], .box 83 [.v (.int .i64 r6), .v (.int .i64 r7)], .row ⟨true, 3, (.int .i64), r8⟩, .row ⟨true, 3, (.int .i64), r9⟩]) (fun r0 r1 r2 r3 r4 r5 r6 r7 => K (.agg [.v (.int .i64 r0), .v (.int .i64 r1), .v (.int .i64 r2), .v (.int .i64 r3), .own 1, .own 2]) [.box 77 [.rd ⟨false, 5, (.int .u8), r4⟩, .v (.int .i64 r5), .v (.nilIface)], .row ⟨true, 3, (.int .i64), r6⟩, .row ⟨true, 3, (.int .i64), r7⟩]) s o0 o0_1 o1 o1_1 o1_2 o1_3 o2 o3 o4 o4_1 o4_2 o4_3 o5 o6 := by kernel_rfl

theorem gstep_text_reader_read_none_20a (l_text_reader_want_none : LT_text_reader_want_none) (l_text_reader_want_fault : LT_text_reader_want_fault) (l_text_reader_number_fault : LT_text_reader_number_fault) (l_text_reader_number_none : LT_text_reader_number_none) {R : Type} (g : List Item → St → Option R) (K : AV → List O → Option R) (s x : Int) (o0 : List Int) (o0_1 o1 o1_1 o2 o2_1 o2_2 o2_3 : Int) (o3 o4 : List Int) (o5 o5_1 o5_2 o5_3 : Int) (o6 o7 : List Int) :
    runSeg Tryd.prog (T_text_reader_read @l_text_reader_want_none @l_text_reader_want_fault @l_text_reader_number_fault @l_text_reader_number_none) cuts_text_reader_read_none 1 g (finish Tryd.prog Tryd.f38 1 K) (at' Tryd.f38 20) (sta_text_reader_read_none_20a s x o0 o0_1 o1 o1_1 o2 o2_1 o2_2 o2_3 o3 o4 o5 o5_1 o5_2 o5_3 o6 o7) =
    (fun (g38_15 : GT_text_reader_read_none_15a R) (g38_15b : GT_text_reader_read_none_15b R) (g38_19 : GT_text_reader_read_none_19a R) (g38_19b : GT_text_reader_read_none_19b R) (g38_20 : GT_text_reader_read_none_20a R) (g38_20b : GT_text_reader_read_none_20b R) (g38_25 : GT_text_reader_read_none_25a R) (g38_25b : GT_text_reader_read_none_25b R) (g38_21 : GT_text_reader_read_none_21a R) (g38_21b : GT_text_reader_read_none_21b R) (K0 : Int → Int → Int → Int → (List Int) → Int → Int → Int → (List Int) → (List Int) → Option R) (K1 : Int → Int → Int → Int → (List Int) → Int → (List Int) → (List Int) → Option R) (s x : Int) (o0 : List Int) (o0_1 o1 o1_1 o2 o2_1 o2_2 o2_3 : Int) (o3 o4 : List Int) (o5 o5_1 o5_2 o5_3 : Int) (o6 o7 : List Int) =>
    bi (decide (x < o5_1))
     (l_text_reader_want_fault (ByteArray.mk #[10]) o0 o0_1 o1 o1_1
      (fun r306 r307 r308 r309 =>
       g38_15 (IntKind.i64.wrap (s + 1)) r306 r307 r308 r309 o2 o2_1 o2_2 o2_3 o3 o4 o5 o5_1 o5_2 o5_3 o6 o7))
     (l_text_reader_want_fault (ByteArray.mk #[10]) o0 o0_1 o1 o1_1
      (fun r310 r311 r312 r313 =>
       g38_15 (IntKind.i64.wrap (s + 1)) r310 r311 r312 r313 o2 o2_1 o2_2 o2_3 o3 o4 o5 o5_1 o5_2 o5_3 o6 o7))) (gt_text_reader_read_none_15a g) (gt_text_reader_read_none_15b g) (gt_text_reader_read_none_19a g) (gt_text_reader_read_none_19b g) (gt_text_reader_read_none_20a g) (gt_text_reader_read_none_20b g) (gt_text_reader_read_none_25a g) (gt_text_reader_read_none_25b g) (gt_text_reader_read_none_21a g) (gt_text_reader_read_none_21b g) (fun r0 r1 r2 r3 r4 r5 r6 r7 r8 r9 => K (.agg [.v (.int .i64 r0), .v (.int .i64 r1), .v (.int .i64 r2), .v (.int .i64 r3), .own 2, .own 3]) [.box 77 [.rd ⟨false, 5, (.int .u8), r4⟩, .v (.int .i64 r5), .ifc 79 (.ptr 1 0)], .box 83 [.v (.int .i64 r6), .v (.int .i64 r7)], .row ⟨true, 3, (.int .i64), r8⟩, .row ⟨true, 3, (.int .i64), r9⟩]) (fun r0 r1 r2 r3 r4 r5 r6 r7 => K (.agg [.v (.int .i64 r0), .v (.int .i64 r1), .v (.int .i64 r2), .v (.int .i64 r3), .own 1, .own 2]) [.box 77 [.rd ⟨false, 5, (.int .u8), r4⟩, .v (.int .i64 r5), .v (.nilIface)], .row ⟨true, 3, (.int .i64), r6⟩, .row ⟨true, 3, (.int .i64), r7⟩]) s x o0 o0_1 o1 o1_1 o2 o2_1 o2_2 o2_3 o3 o4 o5 o5_1 o5_2 o5_3 o6 o7 := by kernel_rfl

theorem gstep_text_reader_read_none_20b (l_text_reader_want_none : LT_text_reader_want_none) (l_text_reader_want_fault : LT_text_reader_want_fault) (l_text_reader_number_fault : LT_text_reader_number_fault) (l_text_reader_number_none : LT_text_reader_number_none) {R : Type} (g : List Item → St → Option R) (K : AV → List O → Option R) (s x : Int) (o0 : List Int) (o0_1 o1 o1_1 o1_2 o1_3 : Int) (o2 o3 : List Int) (o4 o4_1 o4_2 o4_3 : Int) (o5 o6 : List Int) :
    runSeg Tryd.prog (T_text_reader_read @l_text_reader_want_none @l_text_reader_want_fault @l_text_reader_number_fault @l_text_reader_number_none) cuts_text_reader_read_none 1 g (finish Tryd.prog Tryd.f38 1 K) (at' Tryd.f38 20) (sta_text_reader_read_none_20b s x o0 o0_1 o1 o1_1 o1_2 o1_3 o2 o3 o4 o4_1 o4_2 o4_3 o5 o6) =
    (fun (g38_15 : GT_text_reader_read_none_15a R) (g38_15b : GT_text_reader_read_none_15b R) (g38_19 : GT_text_reader_read_none_19a R) (g38_19b : GT_text_reader_read_none_19b R) (g38_20 : GT_text_reader_read_none_20a R) (g38_20b : GT_text_reader_read_none_20b R) (g38_25 : GT_text_reader_read_none_25a R) (g38_25b : GT_text_reader_read_none_25b R) (g38_21 : GT_text_reader_read_none_21a R) (g38_21b : GT_text_reader_read_none_21b R) (K0 : Int → Int → Int → Int → (List Int) → Int → Int → Int → (List Int) → (List Int) → Option R) (K1 : Int → Int → Int → Int → (List Int) → Int → (List Int) → (List Int) → Option R) (s x : Int) (o0 : List Int) (o0_1 o1 o1_1 o1_2 o1_3 : Int) (o2 o3 : List Int) (o4 o4_1 o4_2 o4_3 : Int) (o5 o6 : List Int) =>
    bi (decide (x < o4_1))
     (bi (decide (x > 0))
      (l_text_reader_want_none (ByteArray.mk #[32]) o0 o0_1
       (fun r314 r315 r316 r317 =>
        both
         (l_text_reader_number_fault 0 (IntKind.i64.wrap (o4_3 - 1)) 32 r314 r315 r316 r317
          (fun r318 r319 r320 r321 r322 =>
           bi (decide ((o5.length + [r318].length) * 8 ≤ lim))
            (g38_25 s x r319 r320 r321 r322 o1 o1_1 o1_2 o1_3 o2 o3 o4 o4_1 o4_2 o4_3 (o5 ++ [r318]) o6)
            none))
         (l_text_reader_number_fault 0 (IntKind.i64.wrap (o4_3 - 1)) 32 r314 r315 r316 r317
          (fun r318 r319 r320 r321 r322 =>
           twice
            (bi (decide ((o5.length + [r318].length) * 8 ≤ lim))
             (g38_25 s x r319 r320 r321 r322 o1 o1_1 o1_2 o1_3 o2 o3 o4 o4_1 o4_2 o4_3 (o5 ++ [r318]) o6)
             none))))
       (fun r323 r324 =>
        both
         (l_text_reader_number_none 0 (IntKind.i64.wrap (o4_3 - 1)) 32 r323 r324
          (fun r325 r326 r327 r328 r329 =>
           bi (decide ((o5.length + [r325].length) * 8 ≤ lim))
            (g38_25 s x r326 r327 r328 r329 o1 o1_1 o1_2 o1_3 o2 o3 o4 o4_1 o4_2 o4_3 (o5 ++ [r325]) o6)
            none)
          (fun r330 r331 r332 =>
           bi (decide ((o5.length + [r330].length) * 8 ≤ lim))
            (g38_25b s x r331 r332 o1 o1_1 o1_2 o1_3 o2 o3 o4 o4_1 o4_2 o4_3 (o5 ++ [r330]) o6)
            none))
         (l_text_reader_number_none 0 (IntKind.i64.wrap (o4_3 - 1)) 32 r323 r324
          (fun r325 r326 r327 r328 r329 =>
           twice
            (bi (decide ((o5.length + [r325].length) * 8 ≤ lim))
             (g38_25 s x r326 r327 r328 r329 o1 o1_1 o1_2 o1_3 o2 o3 o4 o4_1 o4_2 o4_3 (o5 ++ [r325]) o6)
             none))
          (fun r330 r331 r332 =>
           twice
            (bi (decide ((o5.length + [r330].length) * 8 ≤ lim))
             (g38_25b s x r331 r332 o1 o1_1 o1_2 o1_3 o2 o3 o4 o4_1 o4_2 o4_3 (o5 ++ [r330]) o6)
             none)))))
      (bi (o4 == 1)
       (l_text_reader_want_none (ByteArray.mk #[32]) o0 o0_1
        (fun r333 r334 r335 r336 =>
         both
          (l_text_reader_number_fault 0 (IntKind.i64.wrap (o4_3 - 1)) 32 r333 r334 r335 r336
           (fun r337 r338 r339 r340 r341 =>
            bi (decide ((o5.length + [r337].length) * 8 ≤ lim))
             (g38_25 s x r338 r339 r340 r341 o1 o1_1 o1_2 o1_3 o2 o3 o4 o4_1 o4_2 o4_3 (o5 ++ [r337]) o6)
             none))
          (l_text_reader_number_fault 0 (IntKind.i64.wrap (o4_3 - 1)) 32 r333 r334 r335 r336
           (fun r337 r338 r339 r340 r341 =>
            twice
             (bi (decide ((o5.length + [r337].length) * 8 ≤ lim))
              (g38_25 s x r338 r339 r340 r341 o1 o1_1 o1_2 o1_3 o2 o3 o4 o4_1 o4_2 o4_3 (o5 ++ [r337]) o6)
              none))))
        (fun r342 r343 =>
         both
          (l_text_reader_number_none 0 (IntKind.i64.wrap (o4_3 - 1)) 32 r342 r343
           (fun r344 r345 r346 r347 r348 =>
            bi (decide ((o5.length + [r344].length) * 8 ≤ lim))
             (g38_25 s x r345 r346 r347 r348 o1 o1_1 o1_2 o1_3 o2 o3 o4 o4_1 o4_2 o4_3 (o5 ++ [r344]) o6)
             none)
           (fun r349 r350 r351 =>
            bi (decide ((o5.length + [r349].length) * 8 ≤ lim))
             (g38_25b s x r350 r351 o1 o1_1 o1_2 o1_3 o2 o3 o4 o4_1 o4_2 o4_3 (o5 ++ [r349]) o6)
             none))
          (l_text_reader_number_none 0 (IntKind.i64.wrap (o4_3 - 1)) 32 r342 r343
           (fun r344 r345 r346 r347 r348 =>
            twice
             (bi (decide ((o5.length + [r344].length) * 8 ≤ lim))
              (g38_25 s x r345 r346 r347 r348 o1 o1_1 o1_2 o1_3 o2 o3 o4 o4_1 o4_2 o4_3 (o5 ++ [r344]) o6)
              none))
           (fun r349 r350 r351 =>
            twice
             (bi (decide ((o5.length + [r349].length) * 8 ≤ lim))
              (g38_25b s x r350 r351 o1 o1_1 o1_2 o1_3 o2 o3 o4 o4_1 o4_2 o4_3 (o5 ++ [r349]) o6)
              none)))))
       (both
        (l_text_reader_number_none 0 (IntKind.i64.wrap (o4_3 - 1)) 32 o0 o0_1
         (fun r352 r353 r354 r355 r356 =>
          bi (decide ((o5.length + [r352].length) * 8 ≤ lim))
           (g38_25 s x r353 r354 r355 r356 o1 o1_1 o1_2 o1_3 o2 o3 o4 o4_1 o4_2 o4_3 (o5 ++ [r352]) o6)
           none)
         (fun r357 r358 r359 =>
          bi (decide ((o5.length + [r357].length) * 8 ≤ lim))
           (g38_25b s x r358 r359 o1 o1_1 o1_2 o1_3 o2 o3 o4 o4_1 o4_2 o4_3 (o5 ++ [r357]) o6)
           none))
        (l_text_reader_number_none 0 (IntKind.i64.wrap (o4_3 - 1)) 32 o0 o0_1
         (fun r352 r353 r354 r355 r356 =>
          twice
           (bi (decide ((o5.length + [r352].length) * 8 ≤ lim))
            (g38_25 s x r353 r354 r355 r356 o1 o1_1 o1_2 o1_3 o2 o3 o4 o4_1 o4_2 o4_3 (o5 ++ [r352]) o6)
            none))
         (fun r357 r358 r359 =>
          twice
           (bi (decide ((o5.length + [r357].length) * 8 ≤ lim))
            (g38_25b s x r358 r359 o1 o1_1 o1_2 o1_3 o2 o3 o4 o4_1 o4_2 o4_3 (o5 ++ [r357]) o6)
            none))))))
     (l_text_reader_want_none (ByteArray.mk #[10]) o0 o0_1
      (fun r360 r361 r362 r363 =>
       g38_15 (IntKind.i64.wrap (s + 1)) r360 r361 r362 r363 o1 o1_1 o1_2 o1_3 o2 o3 o4 o4_1 o4_2 o4_3 o5 o6)
      (fun r364 r365 =>
       g38_15b (IntKind.i64.wrap (s + 1)) r364 r365 o1 o1_1 o1_2 o1_3 o2 o3 o4 o4_1 o4_2 o4_3 o5 o6))) (gt_text_reader_read_none_15a g) (gt_text_reader_read_none_15b g) (gt_text_reader_read_none_19a g) (gt_text_reader_read_none_19b g) (gt_text_reader_read_none_20a g) (gt_text_reader_read_none_20b g) (gt_text_reader_read_none_25a g) (gt_text_reader_read_none_25b g) (gt_text_reader_read_none_21a g) (gt_text_reader_read_none_21b g) (fun r0 r1 r2 r3 r4 r5 r6 r7 r8 r9 => K (.agg [.v (.int .i64 r0), .v (.int .i64 r1), .v (.int .i64 r2), .v (.int .i64 r3), .own 2, .own 3]) [.box 77 [.rd ⟨false, 5, (.int .u8), r4⟩, .v (.int .i64 r5), .ifc 79 (.ptr 1 0)], .box 83 [.v (.int .i64 r6), .v (.int .i64 r7)], .row ⟨true, 3, (.int .i64), r8⟩, .row ⟨true, 3, (.int .i64), r9⟩]) (fun r0 r1 r2 r3 r4 r5 r6 r7 => K (.agg [.v (.int .i64 r0), .v (.int .i64 r1), .v (.int .i64 r2), .v (.int .i64 r3), .own 1, .own 2]) [.box 77 [.rd ⟨false, 5, (.int .u8), r4⟩, .v (.int .i64 r5), .v (.nilIface)], .row ⟨true, 3, (.int .i64), r6⟩, .row ⟨true, 3, (.int .i64), r7⟩]) s x o0 o0_1 o1 o1_1 o1_2 o1_3 o2 o3 o4 o4_1 o4_2 o4_3 o5 o6 := by kernel_rfl

theorem gstep_text_reader_read_none_25a (l_text_reader_want_none : LT_text_reader_want_none) (l_text_reader_want_fault : LT_text_reader_want_fault) (l_text_reader_number_fault : LT_text_reader_number_fault) (l_text_reader_number_none : LT_text_reader_number_none) {R : Type} (g : List Item → St → Option R) (K : AV → List O → Option R) (s x : Int) (o0 : List Int) (o0_1 o1 o1_1 o2 o2_1 o2_2 o2_3 : Int) (o3 o4 : List Int) (o5 o5_1 o5_2 o5_3 : Int) (o6 o7 : List Int) :
    runSeg Tryd.prog (T_text_reader_read @l_text_reader_want_none @l_text_reader_want_fault @l_text_reader_number_fault @l_text_reader_number_none) cuts_text_reader_read_none 1 g (finish Tryd.prog Tryd.f38 1 K) (at' Tryd.f38 25) (sta_text_reader_read_none_25a s x o0 o0_1 o1 o1_1 o2 o2_1 o2_2 o2_3 o3 o4 o5 o5_1 o5_2 o5_3 o6 o7) =
    (fun (g38_15 : GT_text_reader_read_none_15a R) (g38_15b : GT_text_reader_read_none_15b R) (g38_19 : GT_text_reader_read_none_19a R) (g38_19b : GT_text_reader_read_none_19b R) (g38_20 : GT_text_reader_read_none_20a R) (g38_20b : GT_text_reader_read_none_20b R) (g38_25 : GT_text_reader_read_none_25a R) (g38_25b : GT_text_reader_read_none_25b R) (g38_21 : GT_text_reader_read_none_21a R) (g38_21b : GT_text_reader_read_none_21b R) (K0 : Int → Int → Int → Int → (List Int) → Int → Int → Int → (List Int) → (List Int) → Option R) (K1 : Int → Int → Int → Int → (List Int) → Int → (List Int) → (List Int) → Option R) (s x : Int) (o0 : List Int) (o0_1 o1 o1_1 o2 o2_1 o2_2 o2_3 : Int) (o3 o4 : List Int) (o5 o5_1 o5_2 o5_3 : Int) (o6 o7 : List Int) =>
    bi (o5 == 2)
     (l_text_reader_want_fault (ByteArray.mk #[47]) o0 o0_1 o1 o1_1
      (fun r366 r367 r368 r369 =>
       both
        (l_text_reader_number_fault 0 (IntKind.i64.wrap (o5_2 - 1)) 33 r366 r367 r368 r369
         (fun r370 r371 r372 r373 r374 =>
          bi (decide ((o7.length + [r370].length) * 8 ≤ lim))
           (g38_21 s x r371 r372 r373 r374 o2 o2_1 o2_2 o2_3 o3 o4 o5 o5_1 o5_2 o5_3 o6 (o7 ++ [r370]))
           none))
        (l_text_reader_number_fault 0 (IntKind.i64.wrap (o5_2 - 1)) 33 r366 r367 r368 r369
         (fun r370 r371 r372 r373 r374 =>
          twice
           (bi (decide ((o7.length + [r370].length) * 8 ≤ lim))
            (g38_21 s x r371 r372 r373 r374 o2 o2_1 o2_2 o2_3 o3 o4 o5 o5_1 o5_2 o5_3 o6 (o7 ++ [r370]))
            none)))))
     (g38_21 s x o0 o0_1 o1 o1_1 o2 o2_1 o2_2 o2_3 o3 o4 o5 o5_1 o5_2 o5_3 o6 o7)) (gt_text_reader_read_none_15a g) (gt_text_reader_read_none_15b g) (gt_text_reader_read_none_19a g) (gt_text_reader_read_none_19b g) (gt_text_reader_read_none_20a g) (gt_text_reader_read_none_20b g) (gt_text_reader_read_none_25a g) (gt_text_reader_read_none_25b g) (gt_text_reader_read_none_21a g) (gt_text_reader_read_none_21b g) (fun r0 r1 r2 r3 r4 r5 r6 r7 r8 r9 => K (.agg [.v (.int .i64 r0), .v (.int .i64 r1), .v (.int .i64 r2), .v (.int .i64 r3), .own 2, .own 3]) [.box 77 [.rd ⟨false, 5, (.int .u8), r4⟩, .v (.int .i64 r5), .ifc 79 (.ptr 1 0)], .box 83 [.v (.int .i64 r6), .v (.int .i64 r7)], .row ⟨true, 3, (.int .i64), r8⟩, .row ⟨true, 3, (.int .i64), r9⟩]) (fun r0 r1 r2 r3 r4 r5 r6 r7 => K (.agg [.v (.int .i64 r0), .v (.int .i64 r1), .v (.int .i64 r2), .v (.int .i64 r3), .own 1, .own 2]) [.box 77 [.rd ⟨false, 5, (.int .u8), r4⟩, .v (.int .i64 r5), .v (.nilIface)], .row ⟨true, 3, (.int .i64), r6⟩, .row ⟨true, 3, (.int .i64), r7⟩]) s x o0 o0_1 o1 o1_1 o2 o2_1 o2_2 o2_3 o3 o4 o5 o5_1 o5_2 o5_3 o6 o7 := by kernel_rfl

theorem gstep_text_reader_read_none_25b (l_text_reader_want_none : LT_text_reader_want_none) (l_text_reader_want_fault : LT_text_reader_want_fault) (l_text_reader_number_fault : LT_text_reader_number_fault) (l_text_reader_number_none : LT_text_reader_number_none) {R : Type} (g : List Item → St → Option R) (K : AV → List O → Option R) (s x : Int) (o0 : List Int) (o0_1 o1 o1_1 o1_2 o1_3 : Int) (o2 o3 : List Int) (o4 o4_1 o4_2 o4_3 : Int) (o5 o6 : List Int) :
    runSeg Tryd.prog (T_text_reader_read @l_text_reader_want_none @l_text_reader_want_fault @l_text_reader_number_fault @l_text_reader_number_none) cuts_text_reader_read_none 1 g (finish Tryd.prog Tryd.f38 1 K) (at' Tryd.f38 25) (sta_text_reader_read_none_25b s x o0 o0_1 o1 o1_1 o1_2 o1_3 o2 o3 o4 o4_1 o4_2 o4_3 o5 o6) =
    (fun (g38_15 : GT_text_reader_read_none_15a R) (g38_15b : GT_text_reader_read_none_15b R) (g38_19 : GT_text_reader_read_none_19a R) (g38_19b : GT_text_reader_read_none_19b R) (g38_20 : GT_text_reader_read_none_20a R) (g38_20b : GT_text_reader_read_none_20b R) (g38_25 : GT_text_reader_read_none_25a R) (g38_25b : GT_text_reader_read_none_25b R) (g38_21 : GT_text_reader_read_none_21a R) (g38_21b : GT_text_reader_read_none_21b R) (K0 : Int → Int → Int → Int → (List Int) → Int → Int → Int → (List Int) → (List Int) → Option R) (K1 : Int → Int → Int → Int → (List Int) → Int → (List Int) → (List Int) → Option R) (s x : Int) (o0 : List Int) (o0_1 o1 o1_1 o1_2 o1_3 : Int) (o2 o3 : List Int) (o4 o4_1 o4_2 o4_3 : Int) (o5 o6 : List Int) =>
    bi (o4 == 2)
     (l_text_reader_want_none (ByteArray.mk #[47]) o0 o0_1
      (fun r375 r376 r377 r378 =>
       both
        (l_text_reader_number_fault 0 (IntKind.i64.wrap (o4_2 - 1)) 33 r375 r376 r377 r378
         (fun r379 r380 r381 r382 r383 =>
          bi (decide ((o6.length + [r379].length) * 8 ≤ lim))
           (g38_21 s x r380 r381 r382 r383 o1 o1_1 o1_2 o1_3 o2 o3 o4 o4_1 o4_2 o4_3 o5 (o6 ++ [r379]))
           none))
        (l_text_reader_number_fault 0 (IntKind.i64.wrap (o4_2 - 1)) 33 r375 r376 r377 r378
         (fun r379 r380 r381 r382 r383 =>
          twice
           (bi (decide ((o6.length + [r379].length) * 8 ≤ lim))
            (g38_21 s x r380 r381 r382 r383 o1 o1_1 o1_2 o1_3 o2 o3 o4 o4_1 o4_2 o4_3 o5 (o6 ++ [r379]))
            none))))
      (fun r384 r385 =>
       both
        (l_text_reader_number_none 0 (IntKind.i64.wrap (o4_2 - 1)) 33 r384 r385
         (fun r386 r387 r388 r389 r390 =>
          bi (decide ((o6.length + [r386].length) * 8 ≤ lim))
           (g38_21 s x r387 r388 r389 r390 o1 o1_1 o1_2 o1_3 o2 o3 o4 o4_1 o4_2 o4_3 o5 (o6 ++ [r386]))
           none)
         (fun r391 r392 r393 =>
          bi (decide ((o6.length + [r391].length) * 8 ≤ lim))
           (g38_21b s x r392 r393 o1 o1_1 o1_2 o1_3 o2 o3 o4 o4_1 o4_2 o4_3 o5 (o6 ++ [r391]))
           none))
        (l_text_reader_number_none 0 (IntKind.i64.wrap (o4_2 - 1)) 33 r384 r385
         (fun r386 r387 r388 r389 r390 =>
          twice
           (bi (decide ((o6.length + [r386].length) * 8 ≤ lim))
            (g38_21 s x r387 r388 r389 r390 o1 o1_1 o1_2 o1_3 o2 o3 o4 o4_1 o4_2 o4_3 o5 (o6 ++ [r386]))
            none))
         (fun r391 r392 r393 =>
          twice
           (bi (decide ((o6.length + [r391].length) * 8 ≤ lim))
            (g38_21b s x r392 r393 o1 o1_1 o1_2 o1_3 o2 o3 o4 o4_1 o4_2 o4_3 o5 (o6 ++ [r391]))
            none)))))
     (g38_21b s x o0 o0_1 o1 o1_1 o1_2 o1_3 o2 o3 o4 o4_1 o4_2 o4_3 o5 o6)) (gt_text_reader_read_none_15a g) (gt_text_reader_read_none_15b g) (gt_text_reader_read_none_19a g) (gt_text_reader_read_none_19b g) (gt_text_reader_read_none_20a g) (gt_text_reader_read_none_20b g) (gt_text_reader_read_none_25a g) (gt_text_reader_read_none_25b g) (gt_text_reader_read_none_21a g) (gt_text_reader_read_none_21b g) (fun r0 r1 r2 r3 r4 r5 r6 r7 r8 r9 => K (.agg [.v (.int .i64 r0), .v (.int .i64 r1), .v (.int .i64 r2), .v (.int .i64 r3), .own 2, .own 3]) [.box 77 [.rd ⟨false, 5, (.int .u8), r4⟩, .v (.int .i64 r5), .ifc 79 (.ptr 1 0)], .box 83 [.v (.int .i64 r6), .v (.int .i64 r7)], .row ⟨true, 3, (.int .i64), r8⟩, .row ⟨true, 3, (.int .i64), r9⟩]) (fun r0 r1 r2 r3 r4 r5 r6 r7 => K (.agg [.v (.int .i64 r0), .v (.int .i64 r1), .v (.int .i64 r2), .v (.int .i64 r3), .own 1, .own 2]) [.box 77 [.rd ⟨false, 5, (.int .u8), r4⟩, .v (.int .i64 r5), .v (.nilIface)], .row ⟨true, 3, (.int .i64), r6⟩, .row ⟨true, 3, (.int .i64), r7⟩]) s x o0 o0_1 o1 o1_1 o1_2 o1_3 o2 o3 o4 o4_1 o4_2 o4_3 o5 o6 := by kernel_rfl

theorem gstep_text_reader_read_none_21a (l_text_reader_want_none : LT_text_reader_want_none) (l_text_reader_want_fault : LT_text_reader_want_fault) (l_text_reader_number_fault : LT_text_reader_number_fault) (l_text_reader_number_none : LT_text_reader_number_none) {R : Type} (g : List Item → St → Option R) (K : AV → List O → Option R) (s x : Int) (o0 : List Int) (o0_1 o1 o1_1 o2 o2_1 o2_2 o2_3 : Int) (o3 o4 : List Int) (o5 o5_1 o5_2 o5_3 : Int) (o6 o7 : List Int) :
    runSeg Tryd.prog (T_text_reader_read @l_text_reader_want_none @l_text_reader_want_fault @l_text_reader_number_fault @l_text_reader_number_none) cuts_text_reader_read_none 1 g (finish Tryd.prog Tryd.f38 1 K) (at' Tryd.f38 21) (sta_text_reader_read_none_21a s x o0 o0_1 o1 o1_1 o2 o2_1 o2_2 o2_3 o3 o4 o5 o5_1 o5_2 o5_3 o6 o7) =
    (fun (g38_15 : GT_text_reader_read_none_15a R) (g38_15b : GT_text_reader_read_none_15b R) (g38_19 : GT_text_reader_read_none_19a R) (g38_19b : GT_text_reader_read_none_19b R) (g38_20 : GT_text_reader_read_none_20a R) (g38_20b : GT_text_reader_read_none_20b R) (g38_25 : GT_text_reader_read_none_25a R) (g38_25b : GT_text_reader_read_none_25b R) (g38_21 : GT_text_reader_read_none_21a R) (g38_21b : GT_text_reader_read_none_21b R) (K0 : Int → Int → Int → Int → (List Int) → Int → Int → Int → (List Int) → (List Int) → Option R) (K1 : Int → Int → Int → Int → (List Int) → Int → (List Int) → (List Int) → Option R) (s x : Int) (o0 : List Int) (o0_1 o1 o1_1 o2 o2_1 o2_2 o2_3 : Int) (o3 o4 : List Int) (o5 o5_1 o5_2 o5_3 : Int) (o6 o7 : List Int) =>
    g38_20 s (IntKind.i64.wrap (x + 1)) o0 o0_1 o1 o1_1 o2 o2_1 o2_2 o2_3 o3 o4 o5 o5_1 o5_2 o5_3 o6 o7) (gt_text_reader_read_none_15a g) (gt_text_reader_read_none_15b g) (gt_text_reader_read_none_19a g) (gt_text_reader_read_none_19b g) (gt_text_reader_read_none_20a g) (gt_text_reader_read_none_20b g) (gt_text_reader_read_none_25a g) (gt_text_reader_read_none_25b g) (gt_text_reader_read_none_21a g) (gt_text_reader_read_none_21b g) (fun r0 r1 r2 r3 r4 r5 r6 r7 r8 r9 => K (.agg [.v (.int .i64 r0), .v (.int .i64 r1), .v (.int .i64 r2), .v (.int .i64 r3), .own 2, .own 3]) [.box 77 [.rd ⟨false, 5, (.int .u8), r4⟩, .v (.int .i64 r5), .ifc 79 (.ptr 1 0)], .box 83 [.v (.int .i64 r6), .v (.int .i64 r7)], .row ⟨true, 3, (.int .i64), r8⟩, .row ⟨true, 3, (.int .i64), r9⟩]) (fun r0 r1 r2 r3 r4 r5 r6 r7 => K (.agg [.v (.int .i64 r0), .v (.int .i64 r1), .v (.int .i64 r2), .v (.int .i64 r3), .own 1, .own 2]) [.box 77 [.rd ⟨false, 5, (.int .u8), r4⟩, .v (.int .i64 r5), .v (.nilIface)], .row ⟨true, 3, (.int .i64), r6⟩, .row ⟨true, 3, (.int .i64), r7⟩]) s x o0 o0_1 o1 o1_1 o2 o2_1 o2_2 o2_3 o3 o4 o5 o5_1 o5_2 o5_3 o6 o7 := by kernel_rfl

theorem gstep_text_reader_read_none_21b (l_text_reader_want_none : LT_text_reader_want_none) (l_text_reader_want_fault : LT_text_reader_want_fault) (l_text_reader_number_fault : LT_text_reader_number_fault) (l_text_reader_number_none : LT_text_reader_number_none) {R : Type} (g : List Item → St → Option R) (K : AV → List O → Option R) (s x : Int) (o0 : List Int) (o0_1 o1 o1_1 o1_2 o1_3 : Int) (o2 o3 : List Int) (o4 o4_1 o4_2 o4_3 : Int) (o5 o6 : List Int) :
    runSeg Tryd.prog (T_text_reader_read @l_text_reader_want_none @l_text_reader_want_fault @l_text_reader_number_fault @l_text_reader_number_none) cuts_text_reader_read_none 1 g (finish Tryd.prog Tryd.f38 1 K) (at' Tryd.f38 21) (sta_text_reader_read_none_21b s x o0 o0_1 o1 o1_1 o1_2 o1_3 o2 o3 o4 o4_1 o4_2 o4_3 o5 o6) =
    (fun (g38_15 : GT_text_reader_read_none_15a R) (g38_15b : GT_text_reader_read_none_15b R) (g38_19 : GT_text_reader_read_none_19a R) (g38_19b : GT_text_reader_read_none_19b R) (g38_20 : GT_text_reader_read_none_20a R) (g38_20b : GT_text_reader_read_none_20b R) (g38_25 : GT_text_reader_read_none_25a R) (g38_25b : GT_text_reader_read_none_25b R) (g38_21 : GT_text_reader_read_none_21a R) (g38_21b : GT_text_reader_read_none_21b R) (K0 : Int → Int → Int → Int → (List Int) → Int → Int → Int → (List Int) → (List Int) → Option R) (K1 : Int → Int → Int → Int → (List Int) → Int → (List Int) → (List Int) → Option R) (s x : Int) (o0 : List Int) (o0_1 o1 o1_1 o1_2 o1_3 : Int) (o2 o3 : List Int) (o4 o4_1 o4_2 o4_3 : Int) (o5 o6 : List Int) =>
    g38_20b s (IntKind.i64.wrap (x + 1)) o0 o0_1 o1 o1_1 o1_2 o1_3 o2 o3 o4 o4_1 o4_2 o4_3 o5 o6) (gt_text_reader_read_none_15a g) (gt_text_reader_read_none_15b g) (gt_text_reader_read_none_19a g) (gt_text_reader_read_none_19b g) (gt_text_reader_read_none_20a g) (gt_text_reader_read_none_20b g) (gt_text_reader_read_none_25a g) (gt_text_reader_read_none_25b g) (gt_text_reader_read_none_21a g) (gt_text_reader_read_none_21b g) (fun r0 r1 r2 r3 r4 r5 r6 r7 r8 r9 => K (.agg [.v (.int .i64 r0), .v (.int .i64 r1), .v (.int .i64 r2), .v (.int .i64 r3), .own 2, .own 3]) [.box 77 [.rd ⟨false, 5, (.int .u8), r4⟩, .v (.int .i64 r5), .ifc 79 (.ptr 1 0)], .box 83 [.v (.int .i64 r6), .v (.int .i64 r7)], .row ⟨true, 3, (.int .i64), r8⟩, .row ⟨true, 3, (.int .i64), r9⟩]) (fun r0 r1 r2 r3 r4 r5 r6 r7 => K (.agg [.v (.int .i64 r0), .v (.int .i64 r1), .v (.int .i64 r2), .v (.int .i64 r3), .own 1, .own 2]) [.box 77 [.rd ⟨false, 5, (.int .u8), r4⟩, .v (.int .i64 r5), .v (.nilIface)], .row ⟨true, 3, (.int .i64), r6⟩, .row ⟨true, 3, (.int .i64), r7⟩]) s x o0 o0_1 o1 o1_1 o1_2 o1_3 o2 o3 o4 o4_1 o4_2 o4_3 o5 o6 := by kernel_rfl

theorem gentry_text_reader_read_none (l_text_reader_want_none : LT_text_reader_want_none) (l_text_reader_want_fault : LT_text_reader_want_fault) (l_text_reader_number_fault : LT_text_reader_number_fault) (l_text_reader_number_none : LT_text_reader_number_none) {R : Type} (fuel : Nat) (K : AV → List O → Option R) (o0 : List Int) (o0_1 : Int) :
    fnRun Tryd.prog (T_text_reader_read @l_text_reader_want_none @l_text_reader_want_fault @l_text_reader_number_fault @l_text_reader_number_none) cuts_text_reader_read_none Tryd.f38 fuel [.ptr 0 0] [.box 77 [.rd ⟨false, 5, (.int .u8), o0⟩, .v (.int .i64 o0_1), .v (.nilIface)]] K =
    (fun (g38_15 : GT_text_reader_read_none_15a R) (g38_15b : GT_text_reader_read_none_15b R) (g38_19 : GT_text_reader_read_none_19a R) (g38_19b : GT_text_reader_read_none_19b R) (g38_20 : GT_text_reader_read_none_20a R) (g38_20b : GT_text_reader_read_none_20b R) (g38_25 : GT_text_reader_read_none_25a R) (g38_25b : GT_text_reader_read_none_25b R) (g38_21 : GT_text_reader_read_none_21a R) (g38_21b : GT_text_reader_read_none_21b R) (K0 : Int → Int → Int → Int → (List Int) → Int → Int → Int → (List Int) → (List Int) → Option R) (K1 : Int → Int → Int → Int → (List Int) → Int → (List Int) → (List Int) → Option R) (o0 : List Int) (o0_1 : Int) =>
    bi (decide ((o0.length : Int) > 0))
     (bi (decide (0 ≤ (0 : Int) ∧ (0 : Int) < ((o0.length : Nat) : Int)))
      (bi ((o0.getD 0 0) == 109)
       (l_text_reader_want_none (ByteArray.mk #[109, 101, 97, 108, 121, 32]) o0 o0_1
        (fun r1 r2 r3 r4 =>
         l_text_reader_number_fault 1 64 1 r1 r2 r3 r4
          (fun r5 r6 r7 r8 r9 =>
           l_text_reader_want_fault (ByteArray.mk #[32]) r6 r7 r8 r9
            (fun r10 r11 r12 r13 =>
             l_text_reader_number_fault 1 64 33 r10 r11 r12 r13
              (fun r14 r15 r16 r17 r18 =>
               l_text_reader_want_fault (ByteArray.mk #[32]) r15 r16 r17 r18
                (fun r19 r20 r21 r22 =>
                 l_text_reader_number_fault 1 1024 3 r19 r20 r21 r22
                  (fun r23 r24 r25 r26 r27 =>
                   l_text_reader_want_fault (ByteArray.mk #[10]) r24 r25 r26 r27
                    (fun r28 r29 r30 r31 =>
                     g38_15 0 r28 r29 r30 r31 0 0 0 0 ([] : List Int) ([] : List Int) 2 r5 r14 r23 ([] : List Int) ([] : List Int))))))))
        (fun r32 r33 =>
         l_text_reader_number_none 1 64 1 r32 r33
          (fun r34 r35 r36 r37 r38 =>
           l_text_reader_want_fault (ByteArray.mk #[32]) r35 r36 r37 r38
            (fun r39 r40 r41 r42 =>
             l_text_reader_number_fault 1 64 33 r39 r40 r41 r42
              (fun r43 r44 r45 r46 r47 =>
               l_text_reader_want_fault (ByteArray.mk #[32]) r44 r45 r46 r47
                (fun r48 r49 r50 r51 =>
                 l_text_reader_number_fault 1 1024 3 r48 r49 r50 r51
                  (fun r52 r53 r54 r55 r56 =>
                   l_text_reader_want_fault (ByteArray.mk #[10]) r53 r54 r55 r56
                    (fun r57 r58 r59 r60 =>
                     g38_15 0 r57 r58 r59 r60 0 0 0 0 ([] : List Int) ([] : List Int) 2 r34 r43 r52 ([] : List Int) ([] : List Int)))))))
          (fun r61 r62 r63 =>
           l_text_reader_want_none (ByteArray.mk #[32]) r62 r63
            (fun r64 r65 r66 r67 =>
             l_text_reader_number_fault 1 64 33 r64 r65 r66 r67
              (fun r68 r69 r70 r71 r72 =>
               l_text_reader_want_fault (ByteArray.mk #[32]) r69 r70 r71 r72
                (fun r73 r74 r75 r76 =>
                 l_text_reader_number_fault 1 1024 3 r73 r74 r75 r76
                  (fun r77 r78 r79 r80 r81 =>
                   l_text_reader_want_fault (ByteArray.mk #[10]) r78 r79 r80 r81
                    (fun r82 r83 r84 r85 =>
                     g38_15 0 r82 r83 r84 r85 0 0 0 0 ([] : List Int) ([] : List Int) 2 r61 r68 r77 ([] : List Int) ([] : List Int))))))
            (fun r86 r87 =>
             l_text_reader_number_none 1 64 33 r86 r87
              (fun r88 r89 r90 r91 r92 =>
               l_text_reader_want_fault (ByteArray.mk #[32]) r89 r90 r91 r92
                (fun r93 r94 r95 r96 =>
                 l_text_reader_number_fault 1 1024 3 r93 r94 r95 r96
                  (fun r97 r98 r99 r100 r101 =>
                   l_text_reader_want_fault (ByteArray.mk #[10]) r98 r99 r100 r101
                    (fun r102 r103 r104 r105 =>
                     g38_15 0 r102 r103 r104 r105 0 0 0 0 ([] : List Int) ([] : List Int) 2 r61 r88 r97 ([] : List Int) ([] : List Int)))))
              (fun r106 r107 r108 =>
               l_text_reader_want_none (ByteArray.mk #[32]) r107 r108
                (fun r109 r110 r111 r112 =>
                 l_text_reader_number_fault 1 1024 3 r109 r110 r111 r112
                  (fun r113 r114 r115 r116 r117 =>
                   l_text_reader_want_fault (ByteArray.mk #[10]) r114 r115 r116 r117
                    (fun r118 r119 r120 r121 =>
                     g38_15 0 r118 r119 r120 r121 0 0 0 0 ([] : List Int) ([] : List Int) 2 r61 r106 r113 ([] : List Int) ([] : List Int))))
                (fun r122 r123 =>
                 l_text_reader_number_none 1 1024 3 r122 r123
                  (fun r124 r125 r126 r127 r128 =>
                   l_text_reader_want_fault (ByteArray.mk #[10]) r125 r126 r127 r128
                    (fun r129 r130 r131 r132 =>
                     g38_15 0 r129 r130 r131 r132 0 0 0 0 ([] : List Int) ([] : List Int) 2 r61 r106 r124 ([] : List Int) ([] : List Int)))
                  (fun r133 r134 r135 =>
                   l_text_reader_want_none (ByteArray.mk #[10]) r134 r135
                    (fun r136 r137 r138 r139 =>
                     g38_15 0 r136 r137 r138 r139 0 0 0 0 ([] : List Int) ([] : List Int) 2 r61 r106 r133 ([] : List Int) ([] : List Int))
                    (fun r140 r141 =>
                     g38_15b 0 r140 r141 0 0 0 0 ([] : List Int) ([] : List Int) 2 r61 r106 r133 ([] : List Int) ([] : List Int)))))))))
       (l_text_reader_want_none (ByteArray.mk #[100, 102, 97, 32]) o0 o0_1
        (fun r142 r143 r144 r145 =>
         l_text_reader_number_fault 1 64 1 r142 r143 r144 r145
          (fun r146 r147 r148 r149 r150 =>
           l_text_reader_want_fault (ByteArray.mk #[32]) r147 r148 r149 r150
            (fun r151 r152 r153 r154 =>
             l_text_reader_number_fault 1 1024 3 r151 r152 r153 r154
              (fun r155 r156 r157 r158 r159 =>
               l_text_reader_want_fault (ByteArray.mk #[10]) r156 r157 r158 r159
                (fun r160 r161 r162 r163 =>
                 g38_15 0 r160 r161 r162 r163 0 0 0 0 ([] : List Int) ([] : List Int) 1 r146 2 r155 ([] : List Int) ([] : List Int))))))
        (fun r164 r165 =>
         l_text_reader_number_none 1 64 1 r164 r165
          (fun r166 r167 r168 r169 r170 =>
           l_text_reader_want_fault (ByteArray.mk #[32]) r167 r168 r169 r170
            (fun r171 r172 r173 r174 =>
             l_text_reader_number_fault 1 1024 3 r171 r172 r173 r174
              (fun r175 r176 r177 r178 r179 =>
               l_text_reader_want_fault (ByteArray.mk #[10]) r176 r177 r178 r179
                (fun r180 r181 r182 r183 =>
                 g38_15 0 r180 r181 r182 r183 0 0 0 0 ([] : List Int) ([] : List Int) 1 r166 2 r175 ([] : List Int) ([] : List Int)))))
          (fun r184 r185 r186 =>
           l_text_reader_want_none (ByteArray.mk #[32]) r185 r186
            (fun r187 r188 r189 r190 =>
             l_text_reader_number_fault 1 1024 3 r187 r188 r189 r190
              (fun r191 r192 r193 r194 r195 =>
               l_text_reader_want_fault (ByteArray.mk #[10]) r192 r193 r194 r195
                (fun r196 r197 r198 r199 =>
                 g38_15 0 r196 r197 r198 r199 0 0 0 0 ([] : List Int) ([] : List Int) 1 r184 2 r191 ([] : List Int) ([] : List Int))))
            (fun r200 r201 =>
             l_text_reader_number_none 1 1024 3 r200 r201
              (fun r202 r203 r204 r205 r206 =>
               l_text_reader_want_fault (ByteArray.mk #[10]) r203 r204 r205 r206
                (fun r207 r208 r209 r210 =>
                 g38_15 0 r207 r208 r209 r210 0 0 0 0 ([] : List Int) ([] : List Int) 1 r184 2 r202 ([] : List Int) ([] : List Int)))
              (fun r211 r212 r213 =>
               l_text_reader_want_none (ByteArray.mk #[10]) r212 r213
                (fun r214 r215 r216 r217 =>
                 g38_15 0 r214 r215 r216 r217 0 0 0 0 ([] : List Int) ([] : List Int) 1 r184 2 r211 ([] : List Int) ([] : List Int))
                (fun r218 r219 =>
                 g38_15b 0 r218 r219 0 0 0 0 ([] : List Int) ([] : List Int) 1 r184 2 r211 ([] : List Int) ([] : List Int))))))))
      none)
     (l_text_reader_want_none (ByteArray.mk #[100, 102, 97, 32]) o0 o0_1
      (fun r220 r221 r222 r223 =>
       l_text_reader_number_fault 1 64 1 r220 r221 r222 r223
        (fun r224 r225 r226 r227 r228 =>
         l_text_reader_want_fault (ByteArray.mk #[32]) r225 r226 r227 r228
          (fun r229 r230 r231 r232 =>
           l_text_reader_number_fault 1 1024 3 r229 r230 r231 r232
            (fun r233 r234 r235 r236 r237 =>
             l_text_reader_want_fault (ByteArray.mk #[10]) r234 r235 r236 r237
              (fun r238 r239 r240 r241 =>
               g38_15 0 r238 r239 r240 r241 0 0 0 0 ([] : List Int) ([] : List Int) 1 r224 2 r233 ([] : List Int) ([] : List Int))))))
      (fun r242 r243 =>
       l_text_reader_number_none 1 64 1 r242 r243
        (fun r244 r245 r246 r247 r248 =>
         l_text_reader_want_fault (ByteArray.mk #[32]) r245 r246 r247 r248
          (fun r249 r250 r251 r252 =>
           l_text_reader_number_fault 1 1024 3 r249 r250 r251 r252
            (fun r253 r254 r255 r256 r257 =>
             l_text_reader_want_fault (ByteArray.mk #[10]) r254 r255 r256 r257
              (fun r258 r259 r260 r261 =>
               g38_15 0 r258 r259 r260 r261 0 0 0 0 ([] : List Int) ([] : List Int) 1 r244 2 r253 ([] : List Int) ([] : List Int)))))
        (fun r262 r263 r264 =>
         l_text_reader_want_none (ByteArray.mk #[32]) r263 r264
          (fun r265 r266 r267 r268 =>
           l_text_reader_number_fault 1 1024 3 r265 r266 r267 r268
            (fun r269 r270 r271 r272 r273 =>
             l_text_reader_want_fault (ByteArray.mk #[10]) r270 r271 r272 r273
              (fun r274 r275 r276 r277 =>
               g38_15 0 r274 r275 r276 r277 0 0 0 0 ([] : List Int) ([] : List Int) 1 r262 2 r269 ([] : List Int) ([] : List Int))))
          (fun r278 r279 =>
           l_text_reader_number_none 1 1024 3 r278 r279
            (fun r280 r281 r282 r283 r284 =>
             l_text_reader_want_fault (ByteArray.mk #[10]) r281 r282 r283 r284
              (fun r285 r286 r287 r288 =>
               g38_15 0 r285 r286 r287 r288 0 0 0 0 ([] : List Int) ([] : List Int) 1 r262 2 r280 ([] : List Int) ([] : List Int)))
            (fun r289 r290 r291 =>
             l_text_reader_want_none (ByteArray.mk #[10]) r290 r291
              (fun r292 r293 r294 r295 =>
               g38_15 0 r292 r293 r294 r295 0 0 0 0 ([] : List Int) ([] : List Int) 1 r262 2 r289 ([] : List Int) ([] : List Int))
              (fun r296 r297 =>
               g38_15b 0 r296 r297 0 0 0 0 ([] : List Int) ([] : List Int) 1 r262 2 r289 ([] : List Int) ([] : List Int)))))))) (gt_text_reader_read_none_15a (runO Tryd.prog (T_text_reader_read @l_text_reader_want_none @l_text_reader_want_fault @l_text_reader_number_fault @l_text_reader_number_none) cuts_text_reader_read_none 1 (finish Tryd.prog Tryd.f38 1 K) fuel)) (gt_text_reader_read_none_15b (runO Tryd.prog (T_text_reader_read @l_text_reader_want_none @l_text_reader_want_fault @l_text_reader_number_fault @l_text_reader_number_none) cuts_text_reader_read_none 1 (finish Tryd.prog Tryd.f38 1 K) fuel)) (gt_text_reader_read_none_19a (runO Tryd.prog (T_text_reader_read @l_text_reader_want_none @l_text_reader_want_fault @l_text_reader_number_fault @l_text_reader_number_none) cuts_text_reader_read_none 1 (finish Tryd.prog Tryd.f38 1 K) fuel)) (gt_text_reader_read_none_19b (runO Tryd.prog (T_text_reader_read @l_text_reader_want_none @l_text_reader_want_fault @l_text_reader_number_fault @l_text_reader_number_none) cuts_text_reader_read_none 1 (finish Tryd.prog Tryd.f38 1 K) fuel)) (gt_text_reader_read_none_20a (runO Tryd.prog (T_text_reader_read @l_text_reader_want_none @l_text_reader_want_fault @l_text_reader_number_fault @l_text_reader_number_none) cuts_text_reader_read_none 1 (finish Tryd.prog Tryd.f38 1 K) fuel)) (gt_text_reader_read_none_20b (runO Tryd.prog (T_text_reader_read @l_text_reader_want_none @l_text_reader_want_fault @l_text_reader_number_fault @l_text_reader_number_none) cuts_text_reader_read_none 1 (finish Tryd.prog Tryd.f38 1 K) fuel)) (gt_text_reader_read_none_25a (runO Tryd.prog (T_text_reader_read @l_text_reader_want_none @l_text_reader_want_fault @l_text_reader_number_fault @l_text_reader_number_none) cuts_text_reader_read_none 1 (finish Tryd.prog Tryd.f38 1 K) fuel)) (gt_text_reader_read_none_25b (runO Tryd.prog (T_text_reader_read @l_text_reader_want_none @l_text_reader_want_fault @l_text_reader_number_fault @l_text_reader_number_none) cuts_text_reader_read_none 1 (finish Tryd.prog Tryd.f38 1 K) fuel)) (gt_text_reader_read_none_21a (runO Tryd.prog (T_text_reader_read @l_text_reader_want_none @l_text_reader_want_fault @l_text_reader_number_fault @l_text_reader_number_none) cuts_text_reader_read_none 1 (finish Tryd.prog Tryd.f38 1 K) fuel)) (gt_text_reader_read_none_21b (runO Tryd.prog (T_text_reader_read @l_text_reader_want_none @l_text_reader_want_fault @l_text_reader_number_fault @l_text_reader_number_none) cuts_text_reader_read_none 1 (finish Tryd.prog Tryd.f38 1 K) fuel)) (fun r0 r1 r2 r3 r4 r5 r6 r7 r8 r9 => K (.agg [.v (.int .i64 r0), .v (.int .i64 r1), .v (.int .i64 r2), .v (.int .i64 r3), .own 2, .own 3]) [.box 77 [.rd ⟨false, 5, (.int .u8), r4⟩, .v (.int .i64 r5), .ifc 79 (.ptr 1 0)], .box 83 [.v (.int .i64 r6), .v (.int .i64 r7)], .row ⟨true, 3, (.int .i64), r8⟩, .row ⟨true, 3, (.int .i64), r9⟩]) (fun r0 r1 r2 r3 r4 r5 r6 r7 => K (.agg [.v (.int .i64 r0), .v (.int .i64 r1), .v (.int .i64 r2), .v (.int .i64 r3), .own 1, .own 2]) [.box 77 [.rd ⟨false, 5, (.int .u8), r4⟩, .v (.int .i64 r5), .v (.nilIface)], .row ⟨true, 3, (.int .i64), r6⟩, .row ⟨true, 3, (.int .i64), r7⟩]) o0 o0_1 := by kernel_rfl

theorem runs_text_reader_read_none {R : Type} (K : AV → List O → Option R) : ∀ fuel : Nat,
    (gt_text_reader_read_none_15a (runO Tryd.prog (T_text_reader_read @l_text_reader_want_none @l_text_reader_want_fault @l_text_reader_number_fault @l_text_reader_number_none) cuts_text_reader_read_none 1 (finish Tryd.prog Tryd.f38 1 K) fuel)) = (run_text_reader_read_none (fun r0 r1 r2 r3 r4 r5 r6 r7 r8 r9 => K (.agg [.v (.int .i64 r0), .v (.int .i64 r1), .v (.int .i64 r2), .v (.int .i64 r3), .own 2, .own 3]) [.box 77 [.rd ⟨false, 5, (.int .u8), r4⟩, .v (.int .i64 r5), .ifc 79 (.ptr 1 0)], .box 83 [.v (.int .i64 r6), .v (.int .i64 r7)], .row ⟨true, 3, (.int .i64), r8⟩, .row ⟨true, 3, (.int .i64), r9⟩]) (fun r0 r1 r2 r3 r4 r5 r6 r7 => K (.agg [.v (.int .i64 r0), .v (.int .i64 r1), .v (.int .i64 r2), .v (.int .i64 r3), .own 1, .own 2]) [.box 77 [.rd ⟨false, 5, (.int .u8), r4⟩, .v (.int .i64 r5), .v (.nilIface)], .row ⟨true, 3, (.int .i64), r6⟩, .row ⟨true, 3, (.int .i64), r7⟩]) fuel).1 ∧
    (gt_text_reader_read_none_15b (runO Tryd.prog (T_text_reader_read @l_text_reader_want_none @l_text_reader_want_fault @l_text_reader_number_fault @l_text_reader_number_none) cuts_text_reader_read_none 1 (finish Tryd.prog Tryd.f38 1 K) fuel)) = (run_text_reader_read_none (fun r0 r1 r2 r3 r4 r5 r6 r7 r8 r9 => K (.agg [.v (.int .i64 r0), .v (.int .i64 r1), .v (.int .i64 r2), .v (.int .i64 r3), .own 2, .own 3]) [.box 77 [.rd ⟨false, 5, (.int .u8), r4⟩, .v (.int .i64 r5), .ifc 79 (.ptr 1 0)], .box 83 [.v (.int .i64 r6), .v (.int .i64 r7)], .row ⟨true, 3, (.int .i64), r8⟩, .row ⟨true, 3, (.int .i64), r9⟩]) (fun r0 r1 r2 r3 r4 r5 r6 r7 => K (.agg [.v (.int .i64 r0), .v (.int .i64 r1), .v (.int .i64 r2), .v (.int .i64 r3), .own 1, .own 2]) [.box 77 [.rd ⟨false, 5, (.int .u8), r4⟩, .v (.int .i64 r5), .v (.nilIface)], .row ⟨true, 3, (.int .i64), r6⟩, .row ⟨true, 3, (.int .i64), r7⟩]) fuel).2.1 ∧
    (gt_text_reader_read_none_19a (runO Tryd.prog (T_text_reader_read @l_text_reader_want_none @l_text_reader_want_fault @l_text_reader_number_fault @l_text_reader_number_none) cuts_text_reader_read_none 1 (finish Tryd.prog Tryd.f38 1 K) fuel)) = (run_text_reader_read_none (fun r0 r1 r2 r3 r4 r5 r6 r7 r8 r9 => K (.agg [.v (.int .i64 r0), .v (.int .i64 r1), .v (.int .i64 r2), .v (.int .i64 r3), .own 2, .own 3]) [.box 77 [.rd ⟨false, 5, (.int .u8), r4⟩, .v (.int .i64 r5), .ifc 79 (.ptr 1 0)], .box 83 [.v (.int .i64 r6), .v (.int .i64 r7)], .row ⟨true, 3, (.int .i64), r8⟩, .row ⟨true, 3, (.int .i64), r9⟩]) (fun r0 r1 r2 r3 r4 r5 r6 r7 => K (.agg [.v (.int .i64 r0), .v (.int .i64 r1), .v (.int .i64 r2), .v (.int .i64 r3), .own 1, .own 2]) [.box 77 [.rd ⟨false, 5, (.int .u8), r4⟩, .v (.int .i64 r5), .v (.nilIface)], .row ⟨true, 3, (.int .i64), r6⟩, .row ⟨true, 3, (.int .i64), r7⟩]) fuel).2.2.1 ∧
    (gt_text_reader_read_none_19b (runO Tryd.prog (T_text_reader_read @l_text_reader_want_none @l_text_reader_want_fault @l_text_reader_number_fault @l_text_reader_number_none) cuts_text_reader_read_none 1 (finish Tryd.prog Tryd.f38 1 K) fuel)) = (run_text_reader_read_none (fun r0 r1 r2 r3 r4 r5 r6 r7 r8 r9 => K (.agg [.v (.int .i64 r0), .v (.int .i64 r1), .v (.int .i64 r2), .v (.int .i64 r3), .own 2, .own 3]) [.box 77 [.rd ⟨false, 5, (.int .u8), r4⟩, .v (.int .i64 r5), .ifc 79 (.ptr 1 0)], .box 83 [.v (.int .i64 r6), .v (.int .i64 r7)], .row ⟨true, 3, (.int .i64), r8⟩, .row ⟨true, 3, (.int .i64), r9⟩]) (fun r0 r1 r2 r3 r4 r5 r6 r7 => K (.agg [.v (.int .i64 r0), .v (.int .i64 r1), .v (.int .i64 r2), .v (.int .i64 r3), .own 1, .own 2]) [.box 77 [.rd ⟨false, 5, (.int .u8), r4⟩, .v (.int .i64 r5), .v (.nilIface)], .row ⟨true, 3, (.int .i64), r6⟩, .row ⟨true, 3, (.int .i64), r7⟩]) fuel).2.2.2.1 ∧
    (gt_text_reader_read_none_20a (runO Tryd.prog (T_text_reader_read @l_text_reader_want_none @l_text_reader_want_fault @l_text_reader_number_fault @l_text_reader_number_none) cuts_text_reader_read_none 1 (finish Tryd.prog Tryd.f38 1 K) fuel)) = (run_text_reader_read_none (fun r0 r1 r2 r3 r4 r5 r6 r7 r8 r9 => K (.agg [.v (.int .i64 r0), .v (.int .i64 r1), .v (.int .i64 r2), .v (.int .i64 r3), .own 2, .own 3]) [.box 77 [.rd ⟨false, 5, (.int .u8), r4⟩, .v (.int .i64 r5), .ifc 79 (.ptr 1 0)], .box 83 [.v (.int .i64 r6), .v (.int .i64 r7)], .row ⟨true, 3, (.int .i64), r8⟩, .row ⟨true, 3, (.int .i64), r9⟩]) (fun r0 r1 r2 r3 r4 r5 r6 r7 => K (.agg [.v (.int .i64 r0), .v (.int .i64 r1), .v (.int .i64 r2), .v (.int .i64 r3), .own 1, .own 2]) [.box 77 [.rd ⟨false, 5, (.int .u8), r4⟩, .v (.int .i64 r5), .v (.nilIface)], .row ⟨true, 3, (.int .i64), r6⟩, .row ⟨true, 3, (.int .i64), r7⟩]) fuel).2.2.2.2.1 ∧
    (gt_text_reader_read_none_20b (runO Tryd.prog (T_text_reader_read @l_text_reader_want_none @l_text_reader_want_fault @l_text_reader_number_fault @l_text_reader_number_none) cuts_text_reader_read_none 1 (finish Tryd.prog Tryd.f38 1 K) fuel)) = (run_text_reader_read_none (fun r0 r1 r2 r3 r4 r5 r6 r7 r8 r9 => K (.agg [.v (.int .i64 r0), .v (.int .i64 r1), .v (.int .i64 r2), .v (.int .i64 r3), .own 2, .own 3]) [.box 77 [.rd ⟨false, 5, (.int .u8), r4⟩, .v (.int .i64 r5), .ifc 79 (.ptr 1 0)], .box 83 [.v (.int .i64 r6), .v (.int .i64 r7)], .row ⟨true, 3, (.int .i64), r8⟩, .row ⟨true, 3, (.int .i64), r9⟩]) (fun r0 r1 r2 r3 r4 r5 r6 r7 => K (.agg [.v (.int .i64 r0), .v (.int .i64 r1), .v (.int .i64 r2), .v (.int .i64 r3), .own 1, .own 2]) [.box 77 [.rd ⟨false, 5, (.int .u8), r4⟩, .v (.int .i64 r5), .v (.nilIface)], .row ⟨true, 3, (.int .i64), r6⟩, .row ⟨true, 3, (.int .i64), r7⟩]) fuel).2.2.2.2.2.1 ∧
    (gt_text_reader_read_none_25a (runO Tryd.prog (T_text_reader_read @l_text_reader_want_none @l_text_reader_want_fault @l_text_reader_number_fault @l_text_reader_number_none) cuts_text_reader_read_none 1 (finish Tryd.prog Tryd.f38 1 K) fuel)) = (run_text_reader_read_none (fun r0 r1 r2 r3 r4 r5 r6 r7 r8 r9 => K (.agg [.v (.int .i64 r0), .v (.int .i64 r1), .v (.int .i64 r2), .v (.int .i64 r3), .own 2, .own 3]) [.box 77 [.rd ⟨false, 5, (.int .u8), r4⟩, .v (.int .i64 r5), .ifc 79 (.ptr 1 0)], .box 83 [.v (.int .i64 r6), .v (.int .i64 r7)], .row ⟨true, 3, (.int .i64), r8⟩, .row ⟨true, 3, (.int .i64), r9⟩]) (fun r0 r1 r2 r3 r4 r5 r6 r7 => K (.agg [.v (.int .i64 r0), .v (.int .i64 r1), .v (.int .i64 r2), .v (.int .i64 r3), .own 1, .own 2]) [.box 77 [.rd ⟨false, 5, (.int .u8), r4⟩, .v (.int .i64 r5), .v (.nilIface)], .row ⟨true, 3, (.int .i64), r6⟩, .row ⟨true, 3, (.int .i64), r7⟩]) fuel).2.2.2.2.2.2.1 ∧
    (gt_text_reader_read_none_25b (runO Tryd.prog (T_text_reader_read @l_text_reader_want_none @l_text_reader_want_fault @l_text_reader_number_fault @l_text_reader_number_none) cuts_text_reader_read_none 1 (finish Tryd.prog Tryd.f38 1 K) fuel)) = (run_text_reader_read_none (fun r0 r1 r2 r3 r4 r5 r6 r7 r8 r9 => K (.agg [.v (.int .i64 r0), .v (.int .i64 r1), .v (.int .i64 r2), .v (.int .i64 r3), .own 2, .own 3]) [.box 77 [.rd ⟨false, 5, (.int .u8), r4⟩, .v (.int .i64 r5), .ifc 79 (.ptr 1 0)], .box 83 [.v (.int .i64 r6), .v (.int .i64 r7)], .row ⟨true, 3, (.int .i64), r8⟩, .row ⟨true, 3, (.int .i64), r9⟩]) (fun r0 r1 r2 r3 r4 r5 r6 r7 => K (.agg [.v (.int .i64 r0), .v (.int .i64 r1), .v (.int .i64 r2), .v (.int .i64 r3), .own 1, .own 2]) [.box 77 [.rd ⟨false, 5, (.int .u8), r4⟩, .v (.int .i64 r5), .v (.nilIface)], .row ⟨true, 3, (.int .i64), r6⟩, .row ⟨true, 3, (.int .i64), r7⟩]) fuel).2.2.2.2.2.2.2.1 ∧
    (gt_text_reader_read_none_21a (runO Tryd.prog (T_text_reader_read @l_text_reader_want_none @l_text_reader_want_fault @l_text_reader_number_fault @l_text_reader_number_none) cuts_text_reader_read_none 1 (finish Tryd.prog Tryd.f38 1 K) fuel)) = (run_text_reader_read_none (fun r0 r1 r2 r3 r4 r5 r6 r7 r8 r9 => K (.agg [.v (.int .i64 r0), .v (.int .i64 r1), .v (.int .i64 r2), .v (.int .i64 r3), .own 2, .own 3]) [.box 77 [.rd ⟨false, 5, (.int .u8), r4⟩, .v (.int .i64 r5), .ifc 79 (.ptr 1 0)], .box 83 [.v (.int .i64 r6), .v (.int .i64 r7)], .row ⟨true, 3, (.int .i64), r8⟩, .row ⟨true, 3, (.int .i64), r9⟩]) (fun r0 r1 r2 r3 r4 r5 r6 r7 => K (.agg [.v (.int .i64 r0), .v (.int .i64 r1), .v (.int .i64 r2), .v (.int .i64 r3), .own 1, .own 2]) [.box 77 [.rd ⟨false, 5, (.int .u8), r4⟩, .v (.int .i64 r5), .v (.nilIface)], .row ⟨true, 3, (.int .i64), r6⟩, .row ⟨true, 3, (.int .i64), r7⟩]) fuel).2.2.2.2.2.2.2.2.1 ∧
    (gt_text_reader_read_none_21b (runO Tryd.prog (T_text_reader_read @l_text_reader_want_none @l_text_reader_want_fault @l_text_reader_number_fault @l_text_reader_number_none) cuts_text_reader_read_none 1 (finish Tryd.prog Tryd.f38 1 K) fuel)) = (run_text_reader_read_none (fun r0 r1 r2 r3 r4 r5 r6 r7 r8 r9 => K (.agg [.v (.int .i64 r0), .v (.int .i64 r1), .v (.int .i64 r2), .v (.int .i64 r3), .own 2, .own 3]) [.box 77 [.rd ⟨false, 5, (.int .u8), r4⟩, .v (.int .i64 r5), .ifc 79 (.ptr 1 0)], .box 83 [.v (.int .i64 r6), .v (.int .i64 r7)], .row ⟨true, 3, (.int .i64), r8⟩, .row ⟨true, 3, (.int .i64), r9⟩]) (fun r0 r1 r2 r3 r4 r5 r6 r7 => K (.agg [.v (.int .i64 r0), .v (.int .i64 r1), .v (.int .i64 r2), .v (.int .i64 r3), .own 1, .own 2]) [.box 77 [.rd ⟨false, 5, (.int .u8), r4⟩, .v (.int .i64 r5), .v (.nilIface)], .row ⟨true, 3, (.int .i64), r6⟩, .row ⟨true, 3, (.int .i64), r7⟩]) fuel).2.2.2.2.2.2.2.2.2
  | 0 => ⟨rfl, rfl, rfl, rfl, rfl, rfl, rfl, rfl, rfl, rfl⟩
  | fuel + 1 => by
    have ih := runs_text_reader_read_none K fuel
    refine ⟨?_, ?_, ?_, ?_, ?_, ?_, ?_, ?_, ?_, ?_⟩
    · funext s o0 o0_1 o1 o1_1 o2 o2_1 o2_2 o2_3 o3 o4 o5 o5_1 o5_2 o5_3 o6 o7
      refine (gstep_text_reader_read_none_15a @l_text_reader_want_none @l_text_reader_want_fault @l_text_reader_number_fault @l_text_reader_number_none _ K s o0 o0_1 o1 o1_1 o2 o2_1 o2_2 o2_3 o3 o4 o5 o5_1 o5_2 o5_3 o6 o7).trans ?_
      rw [ih.1, ih.2.1, ih.2.2.1, ih.2.2.2.1, ih.2.2.2.2.1, ih.2.2.2.2.2.1, ih.2.2.2.2.2.2.1, ih.2.2.2.2.2.2.2.1, ih.2.2.2.2.2.2.2.2.1, ih.2.2.2.2.2.2.2.2.2]
      rfl
    · funext s o0 o0_1 o1 o1_1 o1_2 o1_3 o2 o3 o4 o4_1 o4_2 o4_3 o5 o6
      refine (gstep_text_reader_read_none_15b @l_text_reader_want_none @l_text_reader_want_fault @l_text_reader_number_fault @l_text_reader_number_none _ K s o0 o0_1 o1 o1_1 o1_2 o1_3 o2 o3 o4 o4_1 o4_2 o4_3 o5 o6).trans ?_
      rw [ih.1, ih.2.1, ih.2.2.1, ih.2.2.2.1, ih.2.2.2.2.1, ih.2.2.2.2.2.1, ih.2.2.2.2.2.2.1, ih.2.2.2.2.2.2.2.1, ih.2.2.2.2.2.2.2.2.1, ih.2.2.2.2.2.2.2.2.2]
      rfl
    · funext s o0 o0_1 o1 o1_1 o2 o2_1 o2_2 o2_3 o3 o4 o5 o5_1 o5_2 o5_3 o6 o7
      refine (gstep_text_reader_read_none_19a @l_text_reader_want_none @l_text_reader_want_fault @l_text_reader_number_fault @l_text_reader_number_none _ K s o0 o0_1 o1 o1_1 o2 o2_1 o2_2 o2_3 o3 o4 o5 o5_1 o5_2 o5_3 o6 o7).trans ?_
      rw [ih.1, ih.2.1, ih.2.2.1, ih.2.2.2.1, ih.2.2.2.2.1, ih.2.2.2.2.2.1, ih.2.2.2.2.2.2.1, ih.2.2.2.2.2.2.2.1, ih.2.2.2.2.2.2.2.2.1, ih.2.2.2.2.2.2.2.2.2]
      rfl
    · funext s o0 o0_1 o1 o1_1 o1_2 o1_3 o2 o3 o4 o4_1 o4_2 o4_3 o5 o6
      refine (gstep_text_reader_read_none_19b @l_text_reader_want_none @l_text_reader_want_fault @l_text_reader_number_fault @l_text_reader_number_none _ K s o0 o0_1 o1 o1_1 o1_2 o1_3 o2 o3 o4 o4_1 o4_2 o4_3 o5 o6).trans ?_
      rw [ih.1, ih.2.1, ih.2.2.1, ih.2.2.2.1, ih.2.2.2.2.1, ih.2.2.2.2.2.1, ih.2.2.2.2.2.2.1, ih.2.2.2.2.2.2.2.1, ih.2.2.2.2.2.2.2.2.1, ih.2.2.2.2.2.2.2.2.2]
      rfl
    · funext s x o0 o0_1 o1 o1_1 o2 o2_1 o2_2 o2_3 o3 o4 o5 o5_1 o5_2 o5_3 o6 o7
      refine (gstep_text_reader_read_none_20a @l_text_reader_want_none @l_text_reader_want_fault @l_text_reader_number_fault @l_text_reader_number_none _ K s x o0 o0_1 o1 o1_1 o2 o2_1 o2_2 o2_3 o3 o4 o5 o5_1 o5_2 o5_3 o6 o7).trans ?_
      rw [ih.1, ih.2.1, ih.2.2.1, ih.2.2.2.1, ih.2.2.2.2.1, ih.2.2.2.2.2.1, ih.2.2.2.2.2.2.1, ih.2.2.2.2.2.2.2.1, ih.2.2.2.2.2.2.2.2.1, ih.2.2.2.2.2.2.2.2.2]
      rfl
    · funext s x o0 o0_1 o1 o1_1 o1_2 o1_3 o2 o3 o4 o4_1 o4_2 o4_3 o5 o6
      refine (gstep_text_reader_read_none_20b @l_text_reader_want_none @l_text_reader_want_fault @l_text_reader_number_fault @l_text_reader_number_none _ K s x o0 o0_1 o1 o1_1 o1_2 o1_3 o2 o3 o4 o4_1 o4_2 o4_3 o5 o6).trans ?_
      rw [ih.1, ih.2.1, ih.2.2.1, ih.2.2.2.1, ih.2.2.2.2.1, ih.2.2.2.2.2.1, ih.2.2.2.2.2.2.1, ih.2.2.2.2.2.2.2.1, ih.2.2.2.2.2.2.2.2.1, ih.2.2.2.2.2.2.2.2.2]
      rfl
    · funext s x o0 o0_1 o1 o1_1 o2 o2_1 o2_2 o2_3 o3 o4 o5 o5_1 o5_2 o5_3 o6 o7
      refine (gstep_text_reader_read_none_25a @l_text_reader_want_none @l_text_reader_want_fault @l_text_reader_number_fault @l_text_reader_number_none _ K s x o0 o0_1 o1 o1_1 o2 o2_1 o2_2 o2_3 o3 o4 o5 o5_1 o5_2 o5_3 o6 o7).trans ?_
      rw [ih.1, ih.2.1, ih.2.2.1, ih.2.2.2.1, ih.2.2.2.2.1, ih.2.2.2.2.2.1, ih.2.2.2.2.2.2.1, ih.2.2.2.2.2.2.2.1, ih.2.2.2.2.2.2.2.2.1, ih.2.2.2.2.2.2.2.2.2]
      rfl
    · funext s x o0 o0_1 o1 o1_1 o1_2 o1_3 o2 o3 o4 o4_1 o4_2 o4_3 o5 o6
      refine (gstep_text_reader_read_none_25b @l_text_reader_want_none @l_text_reader_want_fault @l_text_reader_number_fault @l_text_reader_number_none _ K s x o0 o0_1 o1 o1_1 o1_2 o1_3 o2 o3 o4 o4_1 o4_2 o4_3 o5 o6).trans ?_
      rw [ih.1, ih.2.1, ih.2.2.1, ih.2.2.2.1, ih.2.2.2.2.1, ih.2.2.2.2.2.1, ih.2.2.2.2.2.2.1, ih.2.2.2.2.2.2.2.1, ih.2.2.2.2.2.2.2.2.1, ih.2.2.2.2.2.2.2.2.2]
      rfl
    · funext s x o0 o0_1 o1 o1_1 o2 o2_1 o2_2 o2_3 o3 o4 o5 o5_1 o5_2 o5_3 o6 o7
      refine (gstep_text_reader_read_none_21a @l_text_reader_want_none @l_text_reader_want_fault @l_text_reader_number_fault @l_text_reader_number_none _ K s x o0 o0_1 o1 o1_1 o2 o2_1 o2_2 o2_3 o3 o4 o5 o5_1 o5_2 o5_3 o6 o7).trans ?_
      rw [ih.1, ih.2.1, ih.2.2.1, ih.2.2.2.1, ih.2.2.2.2.1, ih.2.2.2.2.2.1, ih.2.2.2.2.2.2.1, ih.2.2.2.2.2.2.2.1, ih.2.2.2.2.2.2.2.2.1, ih.2.2.2.2.2.2.2.2.2]
      rfl
    · funext s x o0 o0_1 o1 o1_1 o1_2 o1_3 o2 o3 o4 o4_1 o4_2 o4_3 o5 o6
      refine (gstep_text_reader_read_none_21b @l_text_reader_want_none @l_text_reader_want_fault @l_text_reader_number_fault @l_text_reader_number_none _ K s x o0 o0_1 o1 o1_1 o1_2 o1_3 o2 o3 o4 o4_1 o4_2 o4_3 o5 o6).trans ?_
      rw [ih.1, ih.2.1, ih.2.2.1, ih.2.2.2.1, ih.2.2.2.2.1, ih.2.2.2.2.2.1, ih.2.2.2.2.2.2.1, ih.2.2.2.2.2.2.2.1, ih.2.2.2.2.2.2.2.2.1, ih.2.2.2.2.2.2.2.2.2]
      rfl

def S_text_reader_read (l_text_reader_read_none : LT_text_reader_read_none) : Sum := ⟨[], fun {R} args ob K => match args, ob with
  | [.ptr 0 0], [.box 77 [.rd ⟨false, 5, (.int .u8), o0⟩, .v (.int .i64 o0_1), .v (.nilIface)]] => l_text_reader_read_none o0 o0_1 (fun r0 r1 r2 r3 r4 r5 r6 r7 r8 r9 => K (.agg [.v (.int .i64 r0), .v (.int .i64 r1), .v (.int .i64 r2), .v (.int .i64 r3), .own 2, .own 3]) [.box 77 [.rd ⟨false, 5, (.int .u8), r4⟩, .v (.int .i64 r5), .ifc 79 (.ptr 1 0)], .box 83 [.v (.int .i64 r6), .v (.int .i64 r7)], .row ⟨true, 3, (.int .i64), r8⟩, .row ⟨true, 3, (.int .i64), r9⟩]) (fun r0 r1 r2 r3 r4 r5 r6 r7 => K (.agg [.v (.int .i64 r0), .v (.int .i64 r1), .v (.int .i64 r2), .v (.int .i64 r3), .own 1, .own 2]) [.box 77 [.rd ⟨false, 5, (.int .u8), r4⟩, .v (.int .i64 r5), .v (.nilIface)], .row ⟨true, 3, (.int .i64), r6⟩, .row ⟨true, 3, (.int .i64), r7⟩])
  | _, _ => none⟩

theorem sound_text_reader_read : Sound Tryd.prog 38 (S_text_reader_read @l_text_reader_read_none) := by
  refine fn_sound (cuts := cuts_text_reader_read_none) (fn := Tryd.f38) (Γ := (T_text_reader_read @l_text_reader_want_none @l_text_reader_want_fault @l_text_reader_number_fault @l_text_reader_number_none)) wide right_T_text_reader_read Tryd.func38 fun {R} K r args ob h => ?_
  unfold S_text_reader_read at h
  dsimp only at h
  split at h
  · obtain ⟨n, hn⟩ := ok_text_reader_read_none _ _ _ _ h
    refine ⟨Nat.le_of_ble_eq_true (by kernel_rfl), n, (gentry_text_reader_read_none @l_text_reader_want_none @l_text_reader_want_fault @l_text_reader_number_fault @l_text_reader_number_none n K _ _).trans ?_⟩
    rw [(runs_text_reader_read_none K n).1, (runs_text_reader_read_none K n).2.1, (runs_text_reader_read_none K n).2.2.1, (runs_text_reader_read_none K n).2.2.2.1, (runs_text_reader_read_none K n).2.2.2.2.1, (runs_text_reader_read_none K n).2.2.2.2.2.1, (runs_text_reader_read_none K n).2.2.2.2.2.2.1, (runs_text_reader_read_none K n).2.2.2.2.2.2.2.1, (runs_text_reader_read_none K n).2.2.2.2.2.2.2.2.1, (runs_text_reader_read_none K n).2.2.2.2.2.2.2.2.2]
    exact hn
  · cases h

theorem call_text_reader_read : Callable Tryd.prog 38 := ⟨_, Tryd.func38, by kernel_rfl, by kernel_rfl⟩



def S_errors_As (l_errors_As_fault_nil : LT_errors_As_fault_nil) (l_errors_As_none_fault_nil : LT_errors_As_none_fault_nil) : Sum := ⟨[], fun {R} args ob K => match args, ob with
  | [.ifc 79 (.ptr 0 0), .ifc 81 (.ptr 1 0)], [.box 83 [.v (.int .i64 o0), .v (.int .i64 o0_1)], .box 79 [.v (.pointer none)]] => l_errors_As_fault_nil o0 o0_1 (fun r0 r1 => K (.v (.bool true)) [.box 83 [.v (.int .i64 r0), .v (.int .i64 r1)], .box 79 [.ptr 0 0]])
  | [.v (.nilIface), .ifc 81 (.ptr 0 0)], [.box 79 [.v (.pointer none)]] => l_errors_As_none_fault_nil  (K (.v (.bool false)) [.box 79 [.v (.pointer none)]])
  | _, _ => none⟩

theorem sound_errors_As : Sound Tryd.prog 39 (S_errors_As @l_errors_As_fault_nil @l_errors_As_none_fault_nil) := sound_errorsAs

theorem call_errors_As : Callable Tryd.prog 39 := ⟨_, Tryd.func39, by kernel_rfl, by kernel_rfl⟩

def T_text_Import (l_errors_As_fault_nil : LT_errors_As_fault_nil) (l_errors_As_none_fault_nil : LT_errors_As_none_fault_nil) (l_text_reader_read_none : LT_text_reader_read_none) : FuncId → Option Sum := (addS (addS G0 39 (S_errors_As @l_errors_As_fault_nil @l_errors_As_none_fault_nil)) 38 (S_text_reader_read @l_text_reader_read_none))

theorem right_T_text_Import : Right Tryd.prog (T_text_Import @l_errors_As_fault_nil @l_errors_As_none_fault_nil @l_text_reader_read_none) := (right_add (right_add right_G0 call_errors_As sound_errors_As) call_text_reader_read sound_text_reader_read)

abbrev cuts_text_Import : Cuts := []

theorem gentry_text_Import (l_errors_As_fault_nil : LT_errors_As_fault_nil) (l_errors_As_none_fault_nil : LT_errors_As_none_fault_nil) (l_text_reader_read_none : LT_text_reader_read_none) {R : Type} (K : AV → List O → Option R) (b : List Int) :
    fnRun Tryd.prog (T_text_Import @l_errors_As_fault_nil @l_errors_As_none_fault_nil @l_text_reader_read_none) cuts_text_Import Tryd.f19 0 [.rd ⟨false, 5, (.int .u8), b⟩] [] K =
    (fun (b : List Int) (K0 : Int → Int → Int → Int → Int → Int → (List Int) → (List Int) → Option R) =>
    bi (decide ((b.length : Int) > 16777216))
     (K0 0 0 0 0 2 0 ([] : List Int) ([] : List Int))
     (l_text_reader_read_none b 0
      (fun r1 r2 r3 r4 r5 r6 r7 r8 r9 r10 =>
       l_errors_As_fault_nil r7 r8
        (fun r11 r12 =>
         both
          (both
           (both
            (thrice
             (K0 0 0 0 0 r11 r12 ([] : List Int) ([] : List Int)))
            (both
             (twice
              (K0 0 0 0 0 r11 r12 ([] : List Int) ([] : List Int)))
             (K0 0 0 0 0 r11 r12 ([] : List Int) ([] : List Int))))
           (both
            (both
             (thrice
              (K0 0 0 0 0 r11 r12 ([] : List Int) ([] : List Int)))
             (both
              (twice
               (K0 0 0 0 0 r11 r12 ([] : List Int) ([] : List Int)))
              (both
               (twice
                (K0 0 0 0 0 r11 r12 ([] : List Int) ([] : List Int)))
               (K0 0 0 0 0 r11 r12 ([] : List Int) ([] : List Int)))))
            (twice
             (both
              (twice
               (K0 0 0 0 0 r11 r12 ([] : List Int) ([] : List Int)))
              (K0 0 0 0 0 r11 r12 ([] : List Int) ([] : List Int))))))
          (both
           (both
            (both
             (thrice
              (K0 0 0 0 0 r11 r12 ([] : List Int) ([] : List Int)))
             (both
              (twice
               (K0 0 0 0 0 r11 r12 ([] : List Int) ([] : List Int)))
              (both
               (twice
                (K0 0 0 0 0 r11 r12 ([] : List Int) ([] : List Int)))
               (K0 0 0 0 0 r11 r12 ([] : List Int) ([] : List Int)))))
            (both
             (both
              (twice
               (K0 0 0 0 0 r11 r12 ([] : List Int) ([] : List Int)))
              (K0 0 0 0 0 r11 r12 ([] : List Int) ([] : List Int)))
             (both
              (both
               (twice
                (K0 0 0 0 0 r11 r12 ([] : List Int) ([] : List Int)))
               (K0 0 0 0 0 r11 r12 ([] : List Int) ([] : List Int)))
              (K0 0 0 0 0 r11 r12 ([] : List Int) ([] : List Int)))))
           (both
            (twice
             (both
              (twice
               (K0 0 0 0 0 r11 r12 ([] : List Int) ([] : List Int)))
              (K0 0 0 0 0 r11 r12 ([] : List Int) ([] : List Int))))
            (both
             (both
              (twice
               (K0 0 0 0 0 r11 r12 ([] : List Int) ([] : List Int)))
              (K0 0 0 0 0 r11 r12 ([] : List Int) ([] : List Int)))
             (K0 0 0 0 0 r11 r12 ([] : List Int) ([] : List Int)))))))
      (fun r13 r14 r15 r16 r17 r18 r19 r20 =>
       l_errors_As_none_fault_nil
        (K0 r13 r14 r15 r16 0 (b.length : Int) r19 r20)))) b (fun r0 r1 r2 r3 r4 r5 r6 r7 => K (.tup [.agg [.v (.int .i64 r0), .v (.int .i64 r1), .v (.int .i64 r2), .v (.int .i64 r3), .own 0, .own 1], .v (.int .i64 r4), .v (.int .i64 r5)]) [.row ⟨true, 3, (.int .i64), r6⟩, .row ⟨true, 3, (.int .i64), r7⟩]) := by kernel_rfl

def S_text_Import (l_text_Import : LT_text_Import) : Sum := ⟨[], fun {R} args ob K => match args, ob with
  | [.rd ⟨false, 5, (.int .u8), b⟩], [] => l_text_Import b (fun r0 r1 r2 r3 r4 r5 r6 r7 => K (.tup [.agg [.v (.int .i64 r0), .v (.int .i64 r1), .v (.int .i64 r2), .v (.int .i64 r3), .own 0, .own 1], .v (.int .i64 r4), .v (.int .i64 r5)]) [.row ⟨true, 3, (.int .i64), r6⟩, .row ⟨true, 3, (.int .i64), r7⟩])
  | _, _ => none⟩

theorem sound_text_Import : Sound Tryd.prog 19 (S_text_Import @l_text_Import) := by
  refine fn_sound (cuts := cuts_text_Import) (fn := Tryd.f19) (Γ := (T_text_Import @l_errors_As_fault_nil @l_errors_As_none_fault_nil @l_text_reader_read_none)) wide right_T_text_Import Tryd.func19 fun {R} K r args ob h => ?_
  unfold S_text_Import at h
  dsimp only at h
  split at h
  · exact ⟨Nat.le_of_ble_eq_true (by kernel_rfl), 0, (gentry_text_Import @l_errors_As_fault_nil @l_errors_As_none_fault_nil @l_text_reader_read_none K _).trans h⟩
  · cases h

theorem call_text_Import : Callable Tryd.prog 19 := ⟨_, Tryd.func19, by kernel_rfl, by kernel_rfl⟩

def T_tutorlaw08_num : FuncId → Option Sum := G0

theorem right_T_tutorlaw08_num : Right Tryd.prog T_tutorlaw08_num := right_G0

abbrev cuts_tutorlaw08_num : Cuts := []

theorem gentry_tutorlaw08_num {R : Type} (K : AV → List O → Option R) (e : Int) :
    fnRun Tryd.prog T_tutorlaw08_num cuts_tutorlaw08_num Tryd.f17 0 [.v (.int .i64 e)] [] K =
    (fun (e : Int) (K0 : Int → Option R) =>
    K0 e) e (fun r0 => K (.v (.int .i64 r0)) []) := by kernel_rfl

def S_tutorlaw08_num (l_tutorlaw08_num : LT_tutorlaw08_num) : Sum := ⟨[], fun {R} args ob K => match args, ob with
  | [.v (.int .i64 e)], [] => l_tutorlaw08_num e (fun r0 => K (.v (.int .i64 r0)) [])
  | _, _ => none⟩

theorem sound_tutorlaw08_num : Sound Tryd.prog 17 (S_tutorlaw08_num @l_tutorlaw08_num) := by
  refine fn_sound (cuts := cuts_tutorlaw08_num) (fn := Tryd.f17) (Γ := T_tutorlaw08_num) wide right_T_tutorlaw08_num Tryd.func17 fun {R} K r args ob h => ?_
  unfold S_tutorlaw08_num at h
  dsimp only at h
  split at h
  · exact ⟨Nat.le_of_ble_eq_true (by kernel_rfl), 0, (gentry_tutorlaw08_num K _).trans h⟩
  · cases h

theorem call_tutorlaw08_num : Callable Tryd.prog 17 := ⟨_, Tryd.func17, by kernel_rfl, by kernel_rfl⟩

def T_tutorref01_Same : FuncId → Option Sum := G0

theorem right_T_tutorref01_Same : Right Tryd.prog T_tutorref01_Same := right_G0

abbrev cuts_tutorref01_Same : Cuts := [(4, [0, 1, 5])]

abbrev sta_tutorref01_Same_4 (a b : List Int) (i : Int) : St := ⟨fr0 26 [(0, .rd ⟨false, 3, (.int .i64), a⟩), (1, .rd ⟨false, 3, (.int .i64), b⟩), (5, .v (.int .i64 i))], []⟩

abbrev gt_tutorref01_Same_4 {R : Type} (g : List Item → St → Option R) : GT_tutorref01_Same_4 R := fun (a b : List Int) (i : Int) => g (at' Tryd.f37 4) (sta_tutorref01_Same_4 a b i)

theorem gstep_tutorref01_Same_4 {R : Type} (g : List Item → St → Option R) (K : AV → List O → Option R) (a b : List Int) (i : Int) :
    runSeg Tryd.prog T_tutorref01_Same cuts_tutorref01_Same 0 g (finish Tryd.prog Tryd.f37 0 K) (at' Tryd.f37 4) (sta_tutorref01_Same_4 a b i) =
    (fun (g37_4 : GT_tutorref01_Same_4 R) (K0 : Bool → Option R) (a b : List Int) (i : Int) =>
    bi (decide (i < (a.length : Int)))
     (bi (decide (0 ≤ i ∧ i < ((a.length : Nat) : Int)))
      (bi (decide (0 ≤ i ∧ i < ((b.length : Nat) : Int)))
       (bi ((a.getD i.toNat 0) != (b.getD i.toNat 0))
        (K0 false)
        (g37_4 a b (IntKind.i64.wrap (i + 1))))
       none)
      none)
     (K0 true)) (gt_tutorref01_Same_4 g) (fun r0 => K (.v (.bool r0)) []) a b i := by kernel_rfl

theorem gentry_tutorref01_Same {R : Type} (fuel : Nat) (K : AV → List O → Option R) (a b : List Int) :
    fnRun Tryd.prog T_tutorref01_Same cuts_tutorref01_Same Tryd.f37 fuel [.rd ⟨false, 3, (.int .i64), a⟩, .rd ⟨false, 3, (.int .i64), b⟩] [] K =
    (fun (g37_4 : GT_tutorref01_Same_4 R) (K0 : Bool → Option R) (a b : List Int) =>
    bi ((a.length : Int) != (b.length : Int))
     (K0 false)
     (g37_4 a b 0)) (gt_tutorref01_Same_4 (runO Tryd.prog T_tutorref01_Same cuts_tutorref01_Same 0 (finish Tryd.prog Tryd.f37 0 K) fuel)) (fun r0 => K (.v (.bool r0)) []) a b := by kernel_rfl

theorem runs_tutorref01_Same {R : Type} (K : AV → List O → Option R) : ∀ fuel : Nat,
    (gt_tutorref01_Same_4 (runO Tryd.prog T_tutorref01_Same cuts_tutorref01_Same 0 (finish Tryd.prog Tryd.f37 0 K) fuel)) = (run_tutorref01_Same (fun r0 => K (.v (.bool r0)) []) fuel)
  | 0 => rfl
  | fuel + 1 => by
    have ih := runs_tutorref01_Same K fuel
    funext a b i
    refine (gstep_tutorref01_Same_4 _ K a b i).trans ?_
    rw [ih]
    rfl

def S_tutorref01_Same (l_tutorref01_Same : LT_tutorref01_Same) : Sum := ⟨[], fun {R} args ob K => match args, ob with
  | [.rd ⟨false, 3, (.int .i64), a⟩, .rd ⟨false, 3, (.int .i64), b⟩], [] => l_tutorref01_Same a b (fun r0 => K (.v (.bool r0)) [])
  | _, _ => none⟩

theorem sound_tutorref01_Same : Sound Tryd.prog 37 (S_tutorref01_Same @l_tutorref01_Same) := by
  refine fn_sound (cuts := cuts_tutorref01_Same) (fn := Tryd.f37) (Γ := T_tutorref01_Same) wide right_T_tutorref01_Same Tryd.func37 fun {R} K r args ob h => ?_
  unfold S_tutorref01_Same at h
  dsimp only at h
  split at h
  · obtain ⟨n, hn⟩ := ok_tutorref01_Same _ _ _ h
    refine ⟨Nat.le_of_ble_eq_true (by kernel_rfl), n, (gentry_tutorref01_Same n K _ _).trans ?_⟩
    rw [(runs_tutorref01_Same K n)]
    exact hn
  · cases h

theorem call_tutorref01_Same : Callable Tryd.prog 37 := ⟨_, Tryd.func37, by kernel_rfl, by kernel_rfl⟩

def T_tutorref03_Same (l_tutorref01_Same : LT_tutorref01_Same) : FuncId → Option Sum := (addS G0 37 (S_tutorref01_Same @l_tutorref01_Same))

theorem right_T_tutorref03_Same : Right Tryd.prog (T_tutorref03_Same @l_tutorref01_Same) := (right_add right_G0 call_tutorref01_Same sound_tutorref01_Same)

abbrev cuts_tutorref03_Same : Cuts := []

theorem gentry_tutorref03_Same (l_tutorref01_Same : LT_tutorref01_Same) {R : Type} (K : AV → List O → Option R) (a a_1 a_2 a_3 : Int) (a_4 a_5 : List Int) (b b_1 b_2 b_3 : Int) (b_4 b_5 : List Int) :
    fnRun Tryd.prog (T_tutorref03_Same @l_tutorref01_Same) cuts_tutorref03_Same Tryd.f18 0 [.agg [.v (.int .i64 a), .v (.int .i64 a_1), .v (.int .i64 a_2), .v (.int .i64 a_3), .rd ⟨false, 3, (.int .i64), a_4⟩, .rd ⟨false, 3, (.int .i64), a_5⟩], .agg [.v (.int .i64 b), .v (.int .i64 b_1), .v (.int .i64 b_2), .v (.int .i64 b_3), .rd ⟨false, 3, (.int .i64), b_4⟩, .rd ⟨false, 3, (.int .i64), b_5⟩]] [] K =
    (fun (a a_1 a_2 a_3 : Int) (a_4 a_5 : List Int) (b b_1 b_2 b_3 : Int) (b_4 b_5 : List Int) (K0 : Bool → Option R) =>
    bi (a == b)
     (bi (a_1 == b_1)
      (bi (a_2 == b_2)
       (bi (a_3 == b_3)
        (l_tutorref01_Same a_4 b_4
         (fun r1 =>
          bi r1
           (l_tutorref01_Same a_5 b_5
            (fun r2 =>
             K0 r2))
           (K0 false)))
        (K0 false))
       (K0 false))
      (K0 false))
     (K0 false)) a a_1 a_2 a_3 a_4 a_5 b b_1 b_2 b_3 b_4 b_5 (fun r0 => K (.v (.bool r0)) []) := by kernel_rfl

def S_tutorref03_Same (l_tutorref03_Same : LT_tutorref03_Same) : Sum := ⟨[], fun {R} args ob K => match args, ob with
  | [.agg [.v (.int .i64 a), .v (.int .i64 a_1), .v (.int .i64 a_2), .v (.int .i64 a_3), .rd ⟨false, 3, (.int .i64), a_4⟩, .rd ⟨false, 3, (.int .i64), a_5⟩], .agg [.v (.int .i64 b), .v (.int .i64 b_1), .v (.int .i64 b_2), .v (.int .i64 b_3), .rd ⟨false, 3, (.int .i64), b_4⟩, .rd ⟨false, 3, (.int .i64), b_5⟩]], [] => l_tutorref03_Same a a_1 a_2 a_3 a_4 a_5 b b_1 b_2 b_3 b_4 b_5 (fun r0 => K (.v (.bool r0)) [])
  | _, _ => none⟩

theorem sound_tutorref03_Same : Sound Tryd.prog 18 (S_tutorref03_Same @l_tutorref03_Same) := by
  refine fn_sound (cuts := cuts_tutorref03_Same) (fn := Tryd.f18) (Γ := (T_tutorref03_Same @l_tutorref01_Same)) wide right_T_tutorref03_Same Tryd.func18 fun {R} K r args ob h => ?_
  unfold S_tutorref03_Same at h
  dsimp only at h
  split at h
  · exact ⟨Nat.le_of_ble_eq_true (by kernel_rfl), 0, (gentry_tutorref03_Same @l_tutorref01_Same K _ _ _ _ _ _ _ _ _ _ _ _).trans h⟩
  · cases h

theorem call_tutorref03_Same : Callable Tryd.prog 18 := ⟨_, Tryd.func18, by kernel_rfl, by kernel_rfl⟩

def T_tutorlaw08_live (l_tutorlaw08_num : LT_tutorlaw08_num) (l_tutorref03_Same : LT_tutorref03_Same) (l_text_Number : LT_text_Number) (l_text_Import : LT_text_Import) (l_text_Export : LT_text_Export) : FuncId → Option Sum := (addS (addS (addS (addS (addS G0 17 (S_tutorlaw08_num @l_tutorlaw08_num)) 18 (S_tutorref03_Same @l_tutorref03_Same)) 21 (S_text_Number @l_text_Number)) 19 (S_text_Import @l_text_Import)) 14 (S_text_Export @l_text_Export))

theorem right_T_tutorlaw08_live : Right Tryd.prog (T_tutorlaw08_live @l_tutorlaw08_num @l_tutorref03_Same @l_text_Number @l_text_Import @l_text_Export) := (right_add (right_add (right_add (right_add (right_add right_G0 call_tutorlaw08_num sound_tutorlaw08_num) call_tutorref03_Same sound_tutorref03_Same) call_text_Number sound_text_Number) call_text_Import sound_text_Import) call_text_Export sound_text_Export)

abbrev cuts_tutorlaw08_live : Cuts := []

theorem gentry_tutorlaw08_live (l_tutorlaw08_num : LT_tutorlaw08_num) (l_tutorref03_Same : LT_tutorref03_Same) (l_text_Number : LT_text_Number) (l_text_Import : LT_text_Import) (l_text_Export : LT_text_Export) {R : Type} (K : AV → List O → Option R)  :
    fnRun Tryd.prog (T_tutorlaw08_live @l_tutorlaw08_num @l_tutorref03_Same @l_text_Number @l_text_Import @l_text_Export) cuts_tutorlaw08_live Tryd.f12 0 [] [] K =
    (fun  (K0 : Bool → Option R) =>
    l_text_Export 1 1 2 2 [1, 0] [0, 1]
     (fun r1 r2 =>
      l_text_Import r2
       (fun r3 r4 r5 r6 r7 r8 r9 r10 =>
        bi (decide (0 < [100, 102, 97, 32, 49, 32, 49, 10, 50, 32, 48, 10].length))
         (l_text_Import [100, 102, 97, 32, 49, 32, 49, 10, 50, 32, 48, 10]
          (fun r11 r12 r13 r14 r15 r16 r17 r18 =>
           bi (decide (0 < [48, 52, 50].length))
            (l_text_Number [48, 52, 50] 0
             (fun r19 r20 r21 =>
              l_tutorlaw08_num r1
               (fun r22 =>
                l_tutorlaw08_num r7
                 (fun r23 =>
                  bi ((IntKind.i64.wrap (r22 + r23)) == 0)
                   (bi ((ofBts r2).toList == (ByteArray.mk #[100, 102, 97, 32, 49, 32, 50, 10, 48, 32, 49, 10, 49, 32, 48, 10]).toList)
                    (l_tutorref03_Same r3 r4 r5 r6 r9 r10 1 1 2 2 [1, 0] [0, 1]
                     (fun r24 =>
                      bi r24
                       (bi (r8 == 16)
                        (l_tutorlaw08_num r15
                         (fun r25 =>
                          bi (r25 == 33)
                           (bi (r16 == 8)
                            (l_tutorlaw08_num r21
                             (fun r26 =>
                              bi (r26 == 6)
                               (K0 (r20 == 1))
                               (K0 false)))
                            (K0 false))
                           (K0 false)))
                        (K0 false))
                       (K0 false)))
                    (K0 false))
                   (K0 false)))))
            none))
         none)))  (fun r0 => K (.v (.bool r0)) []) := by kernel_rfl

def S_tutorlaw08_live (l_tutorlaw08_live : LT_tutorlaw08_live) : Sum := ⟨[], fun {R} args ob K => match args, ob with
  | [], [] => l_tutorlaw08_live  (fun r0 => K (.v (.bool r0)) [])
  | _, _ => none⟩

theorem sound_tutorlaw08_live : Sound Tryd.prog 12 (S_tutorlaw08_live @l_tutorlaw08_live) := by
  refine fn_sound (cuts := cuts_tutorlaw08_live) (fn := Tryd.f12) (Γ := (T_tutorlaw08_live @l_tutorlaw08_num @l_tutorref03_Same @l_text_Number @l_text_Import @l_text_Export)) wide right_T_tutorlaw08_live Tryd.func12 fun {R} K r args ob h => ?_
  unfold S_tutorlaw08_live at h
  dsimp only at h
  split at h
  · exact ⟨Nat.le_of_ble_eq_true (by kernel_rfl), 0, (gentry_tutorlaw08_live @l_tutorlaw08_num @l_tutorref03_Same @l_text_Number @l_text_Import @l_text_Export K).trans h⟩
  · cases h

theorem call_tutorlaw08_live : Callable Tryd.prog 12 := ⟨_, Tryd.func12, by kernel_rfl, by kernel_rfl⟩

def T_tutorref03_Check : FuncId → Option Sum := G0

theorem right_T_tutorref03_Check : Right Tryd.prog T_tutorref03_Check := right_G0

abbrev cuts_tutorref03_Check : Cuts := [(15, [1, 5]), (20, [1, 6])]

abbrev sta_tutorref03_Check_15 (i o0 o0_1 o0_2 o0_3 : Int) (o0_4 o0_5 : List Int) : St := ⟨fr0 123 [(1, .ptr 0 0), (5, .v (.int .i64 i))], [.box 24 [.v (.int .i64 o0), .v (.int .i64 o0_1), .v (.int .i64 o0_2), .v (.int .i64 o0_3), .rd ⟨false, 3, (.int .i64), o0_4⟩, .rd ⟨false, 3, (.int .i64), o0_5⟩]]⟩

abbrev gt_tutorref03_Check_15 {R : Type} (g : List Item → St → Option R) : GT_tutorref03_Check_15 R := fun (i o0 o0_1 o0_2 o0_3 : Int) (o0_4 o0_5 : List Int) => g (at' Tryd.f36 15) (sta_tutorref03_Check_15 i o0 o0_1 o0_2 o0_3 o0_4 o0_5)

abbrev sta_tutorref03_Check_20 (i o0 o0_1 o0_2 o0_3 : Int) (o0_4 o0_5 : List Int) : St := ⟨fr0 123 [(1, .ptr 0 0), (6, .v (.int .i64 i))], [.box 24 [.v (.int .i64 o0), .v (.int .i64 o0_1), .v (.int .i64 o0_2), .v (.int .i64 o0_3), .rd ⟨false, 3, (.int .i64), o0_4⟩, .rd ⟨false, 3, (.int .i64), o0_5⟩]]⟩

abbrev gt_tutorref03_Check_20 {R : Type} (g : List Item → St → Option R) : GT_tutorref03_Check_20 R := fun (i o0 o0_1 o0_2 o0_3 : Int) (o0_4 o0_5 : List Int) => g (at' Tryd.f36 20) (sta_tutorref03_Check_20 i o0 o0_1 o0_2 o0_3 o0_4 o0_5)

theorem gstep_tutorref03_Check_15 {R : Type} (g : List Item → St → Option R) (K : AV → List O → Option R) (i o0 o0_1 o0_2 o0_3 : Int) (o0_4 o0_5 : List Int) :
    runSeg Tryd.prog T_tutorref03_Check cuts_tutorref03_Check 0 g (finish Tryd.prog Tryd.f36 0 K) (at' Tryd.f36 15) (sta_tutorref03_Check_15 i o0 o0_1 o0_2 o0_3 o0_4 o0_5) =
    (fun (g36_15 : GT_tutorref03_Check_15 R) (g36_20 : GT_tutorref03_Check_20 R) (K0 : Int → Int → Option R) (i o0 o0_1 o0_2 o0_3 : Int) (o0_4 o0_5 : List Int) =>
    bi (decide (i < (o0_4.length : Int)))
     (bi (decide (0 ≤ i ∧ i < ((o0_4.length : Nat) : Int)))
      (bi (decide ((o0_4.getD i.toNat 0) < 0))
       (K0 i 32)
       (bi (decide (0 ≤ i ∧ i < ((o0_4.length : Nat) : Int)))
        (bi (decide ((o0_4.getD i.toNat 0) ≥ o0_3))
         (K0 i 32)
         (g36_15 (IntKind.i64.wrap (i + 1)) o0 o0_1 o0_2 o0_3 o0_4 o0_5))
        none))
      none)
     (g36_20 0 o0 o0_1 o0_2 o0_3 o0_4 o0_5)) (gt_tutorref03_Check_15 g) (gt_tutorref03_Check_20 g) (fun r0 r1 => K (.tup [.v (.int .i64 r0), .v (.int .i64 r1)]) []) i o0 o0_1 o0_2 o0_3 o0_4 o0_5 := by kernel_rfl

theorem gstep_tutorref03_Check_20 {R : Type} (g : List Item → St → Option R) (K : AV → List O → Option R) (i o0 o0_1 o0_2 o0_3 : Int) (o0_4 o0_5 : List Int) :
    runSeg Tryd.prog T_tutorref03_Check cuts_tutorref03_Check 0 g (finish Tryd.prog Tryd.f36 0 K) (at' Tryd.f36 20) (sta_tutorref03_Check_20 i o0 o0_1 o0_2 o0_3 o0_4 o0_5) =
    (fun (g36_15 : GT_tutorref03_Check_15 R) (g36_20 : GT_tutorref03_Check_20 R) (K0 : Int → Int → Option R) (i o0 o0_1 o0_2 o0_3 : Int) (o0_4 o0_5 : List Int) =>
    bi (decide (i < (o0_5.length : Int)))
     (bi (decide (0 ≤ i ∧ i < ((o0_5.length : Nat) : Int)))
      (bi (decide ((o0_5.getD i.toNat 0) < 0))
       (K0 i 33)
       (bi (decide (0 ≤ i ∧ i < ((o0_5.length : Nat) : Int)))
        (bi (decide ((o0_5.getD i.toNat 0) ≥ o0_2))
         (K0 i 33)
         (g36_20 (IntKind.i64.wrap (i + 1)) o0 o0_1 o0_2 o0_3 o0_4 o0_5))
        none))
      none)
     (K0 0 0)) (gt_tutorref03_Check_15 g) (gt_tutorref03_Check_20 g) (fun r0 r1 => K (.tup [.v (.int .i64 r0), .v (.int .i64 r1)]) []) i o0 o0_1 o0_2 o0_3 o0_4 o0_5 := by kernel_rfl

theorem gentry_tutorref03_Check {R : Type} (fuel : Nat) (K : AV → List O → Option R) (m m_1 m_2 m_3 : Int) (m_4 m_5 : List Int) :
    fnRun Tryd.prog T_tutorref03_Check cuts_tutorref03_Check Tryd.f36 fuel [.agg [.v (.int .i64 m), .v (.int .i64 m_1), .v (.int .i64 m_2), .v (.int .i64 m_3), .rd ⟨false, 3, (.int .i64), m_4⟩, .rd ⟨false, 3, (.int .i64), m_5⟩]] [] K =
    (fun (g36_15 : GT_tutorref03_Check_15 R) (g36_20 : GT_tutorref03_Check_20 R) (K0 : Int → Int → Option R) (m m_1 m_2 m_3 : Int) (m_4 m_5 : List Int) =>
    bi (m != 1)
     (bi (m != 2)
      (K0 0 30)
      (bi (decide (m_1 < 1))
       (K0 0 1)
       (bi (decide (m_1 > 64))
        (K0 0 1)
        (bi (m == 1)
         (bi (m_2 != 2)
          (K0 0 33)
          (bi (decide (m_2 < 1))
           (K0 0 33)
           (bi (decide (m_2 > 64))
            (K0 0 33)
            (bi (decide (m_3 < 1))
             (K0 0 3)
             (bi (decide (m_3 > 1024))
              (K0 0 3)
              (bi (m == 2)
               (bi ((m_4.length : Int) != (IntKind.i64.wrap (m_3 * m_1)))
                (K0 0 31)
                (bi ((m_5.length : Int) != (IntKind.i64.wrap (m_3 * m_1)))
                 (K0 0 31)
                 (g36_15 0 m m_1 m_2 m_3 m_4 m_5)))
               (bi ((m_4.length : Int) != (IntKind.i64.wrap (m_3 * m_1)))
                (K0 0 31)
                (bi ((m_5.length : Int) != m_3)
                 (K0 0 31)
                 (g36_15 0 m m_1 m_2 m_3 m_4 m_5)))))))))
         (bi (decide (m_2 < 1))
          (K0 0 33)
          (bi (decide (m_2 > 64))
           (K0 0 33)
           (bi (decide (m_3 < 1))
            (K0 0 3)
            (bi (decide (m_3 > 1024))
             (K0 0 3)
             (bi (m == 2)
              (bi ((m_4.length : Int) != (IntKind.i64.wrap (m_3 * m_1)))
               (K0 0 31)
               (bi ((m_5.length : Int) != (IntKind.i64.wrap (m_3 * m_1)))
                (K0 0 31)
                (g36_15 0 m m_1 m_2 m_3 m_4 m_5)))
              (bi ((m_4.length : Int) != (IntKind.i64.wrap (m_3 * m_1)))
               (K0 0 31)
               (bi ((m_5.length : Int) != m_3)
                (K0 0 31)
                (g36_15 0 m m_1 m_2 m_3 m_4 m_5))))))))))))
     (bi (decide (m_1 < 1))
      (K0 0 1)
      (bi (decide (m_1 > 64))
       (K0 0 1)
       (bi (m == 1)
        (bi (m_2 != 2)
         (K0 0 33)
         (bi (decide (m_2 < 1))
          (K0 0 33)
          (bi (decide (m_2 > 64))
           (K0 0 33)
           (bi (decide (m_3 < 1))
            (K0 0 3)
            (bi (decide (m_3 > 1024))
             (K0 0 3)
             (bi (m == 2)
              (bi ((m_4.length : Int) != (IntKind.i64.wrap (m_3 * m_1)))
               (K0 0 31)
               (bi ((m_5.length : Int) != (IntKind.i64.wrap (m_3 * m_1)))
                (K0 0 31)
                (g36_15 0 m m_1 m_2 m_3 m_4 m_5)))
              (bi ((m_4.length : Int) != (IntKind.i64.wrap (m_3 * m_1)))
               (K0 0 31)
               (bi ((m_5.length : Int) != m_3)
                (K0 0 31)
                (g36_15 0 m m_1 m_2 m_3 m_4 m_5)))))))))
        (bi (decide (m_2 < 1))
         (K0 0 33)
         (bi (decide (m_2 > 64))
          (K0 0 33)
          (bi (decide (m_3 < 1))
           (K0 0 3)
           (bi (decide (m_3 > 1024))
            (K0 0 3)
            (bi (m == 2)
             (bi ((m_4.length : Int) != (IntKind.i64.wrap (m_3 * m_1)))
              (K0 0 31)
              (bi ((m_5.length : Int) != (IntKind.i64.wrap (m_3 * m_1)))
               (K0 0 31)
               (g36_15 0 m m_1 m_2 m_3 m_4 m_5)))
             (bi ((m_4.length : Int) != (IntKind.i64.wrap (m_3 * m_1)))
              (K0 0 31)
              (bi ((m_5.length : Int) != m_3)
               (K0 0 31)
               (g36_15 0 m m_1 m_2 m_3 m_4 m_5)))))))))))) (gt_tutorref03_Check_15 (runO Tryd.prog T_tutorref03_Check cuts_tutorref03_Check 0 (finish Tryd.prog Tryd.f36 0 K) fuel)) (gt_tutorref03_Check_20 (runO Tryd.prog T_tutorref03_Check cuts_tutorref03_Check 0 (finish Tryd.prog Tryd.f36 0 K) fuel)) (fun r0 r1 => K (.tup [.v (.int .i64 r0), .v (.int .i64 r1)]) []) m m_1 m_2 m_3 m_4 m_5 := by kernel_rfl

theorem runs_tutorref03_Check {R : Type} (K : AV → List O → Option R) : ∀ fuel : Nat,
    (gt_tutorref03_Check_15 (runO Tryd.prog T_tutorref03_Check cuts_tutorref03_Check 0 (finish Tryd.prog Tryd.f36 0 K) fuel)) = (run_tutorref03_Check (fun r0 r1 => K (.tup [.v (.int .i64 r0), .v (.int .i64 r1)]) []) fuel).1 ∧
    (gt_tutorref03_Check_20 (runO Tryd.prog T_tutorref03_Check cuts_tutorref03_Check 0 (finish Tryd.prog Tryd.f36 0 K) fuel)) = (run_tutorref03_Check (fun r0 r1 => K (.tup [.v (.int .i64 r0), .v (.int .i64 r1)]) []) fuel).2
  | 0 => ⟨rfl, rfl⟩
  | fuel + 1 => by
    have ih := runs_tutorref03_Check K fuel
    refine ⟨?_, ?_⟩
    · funext i o0 o0_1 o0_2 o0_3 o0_4 o0_5
      refine (gstep_tutorref03_Check_15 _ K i o0 o0_1 o0_2 o0_3 o0_4 o0_5).trans ?_
      rw [ih.1, ih.2]
      rfl
    · funext i o0 o0_1 o0_2 o0_3 o0_4 o0_5
      refine (gstep_tutorref03_Check_20 _ K i o0 o0_1 o0_2 o0_3 o0_4 o0_5).trans ?_
      rw [ih.1, ih.2]
      rfl

def S_tutorref03_Check (l_tutorref03_Check : LT_tutorref03_Check) : Sum := ⟨[], fun {R} args ob K => match args, ob with
  | [.agg [.v (.int .i64 m), .v (.int .i64 m_1), .v (.int .i64 m_2), .v (.int .i64 m_3), .rd ⟨false, 3, (.int .i64), m_4⟩, .rd ⟨false, 3, (.int .i64), m_5⟩]], [] => l_tutorref03_Check m m_1 m_2 m_3 m_4 m_5 (fun r0 r1 => K (.tup [.v (.int .i64 r0), .v (.int .i64 r1)]) [])
  | _, _ => none⟩

theorem sound_tutorref03_Check : Sound Tryd.prog 36 (S_tutorref03_Check @l_tutorref03_Check) := by
  refine fn_sound (cuts := cuts_tutorref03_Check) (fn := Tryd.f36) (Γ := T_tutorref03_Check) wide right_T_tutorref03_Check Tryd.func36 fun {R} K r args ob h => ?_
  unfold S_tutorref03_Check at h
  dsimp only at h
  split at h
  · obtain ⟨n, hn⟩ := ok_tutorref03_Check _ _ _ _ _ _ _ h
    refine ⟨Nat.le_of_ble_eq_true (by kernel_rfl), n, (gentry_tutorref03_Check n K _ _ _ _ _ _).trans ?_⟩
    rw [(runs_tutorref03_Check K n).1, (runs_tutorref03_Check K n).2]
    exact hn
  · cases h

theorem call_tutorref03_Check : Callable Tryd.prog 36 := ⟨_, Tryd.func36, by kernel_rfl, by kernel_rfl⟩

def T_tutorref07_now : FuncId → Option Sum := G0

theorem right_T_tutorref07_now : Right Tryd.prog T_tutorref07_now := right_G0

abbrev cuts_tutorref07_now : Cuts := []

theorem gentry_tutorref07_now {R : Type} (K : AV → List O → Option R) (a a_1 a_2 a_3 : Int) (a_4 a_5 : List Int) (b b_1 b_2 b_3 : Int) (b_4 b_5 : List Int) (s t x : Int) :
    fnRun Tryd.prog T_tutorref07_now cuts_tutorref07_now Tryd.f57 0 [.agg [.v (.int .i64 a), .v (.int .i64 a_1), .v (.int .i64 a_2), .v (.int .i64 a_3), .rd ⟨false, 3, (.int .i64), a_4⟩, .rd ⟨false, 3, (.int .i64), a_5⟩], .agg [.v (.int .i64 b), .v (.int .i64 b_1), .v (.int .i64 b_2), .v (.int .i64 b_3), .rd ⟨false, 3, (.int .i64), b_4⟩, .rd ⟨false, 3, (.int .i64), b_5⟩], .v (.int .i64 s), .v (.int .i64 t), .v (.int .i64 x)] [] K =
    (fun (a a_1 a_2 a_3 : Int) (a_4 a_5 : List Int) (b b_1 b_2 b_3 : Int) (b_4 b_5 : List Int) (s t x : Int) (K0 : Bool → Option R) =>
    bi (a == 1)
     (bi (decide (x < 0))
      (bi (decide (0 ≤ s ∧ s < ((a_5.length : Nat) : Int)))
       (bi (decide (0 ≤ t ∧ t < ((b_5.length : Nat) : Int)))
        (K0 ((a_5.getD s.toNat 0) != (b_5.getD t.toNat 0)))
        none)
       none)
      (K0 false))
     (bi (decide (x ≥ 0))
      (bi (decide (0 ≤ (IntKind.i64.wrap ((IntKind.i64.wrap (s * a_1)) + x)) ∧ (IntKind.i64.wrap ((IntKind.i64.wrap (s * a_1)) + x)) < ((a_5.length : Nat) : Int)))
       (bi (decide (0 ≤ (IntKind.i64.wrap ((IntKind.i64.wrap (t * b_1)) + x)) ∧ (IntKind.i64.wrap ((IntKind.i64.wrap (t * b_1)) + x)) < ((b_5.length : Nat) : Int)))
        (K0 ((a_5.getD ((IntKind.i64.wrap ((IntKind.i64.wrap (s * a_1)) + x)).toNat) 0) != (b_5.getD ((IntKind.i64.wrap ((IntKind.i64.wrap (t * b_1)) + x)).toNat) 0)))
        none)
       none)
      (K0 false))) a a_1 a_2 a_3 a_4 a_5 b b_1 b_2 b_3 b_4 b_5 s t x (fun r0 => K (.v (.bool r0)) []) := by kernel_rfl

def S_tutorref07_now (l_tutorref07_now : LT_tutorref07_now) : Sum := ⟨[], fun {R} args ob K => match args, ob with
  | [.agg [.v (.int .i64 a), .v (.int .i64 a_1), .v (.int .i64 a_2), .v (.int .i64 a_3), .rd ⟨false, 3, (.int .i64), a_4⟩, .rd ⟨false, 3, (.int .i64), a_5⟩], .agg [.v (.int .i64 b), .v (.int .i64 b_1), .v (.int .i64 b_2), .v (.int .i64 b_3), .rd ⟨false, 3, (.int .i64), b_4⟩, .rd ⟨false, 3, (.int .i64), b_5⟩], .v (.int .i64 s), .v (.int .i64 t), .v (.int .i64 x)], [] => l_tutorref07_now a a_1 a_2 a_3 a_4 a_5 b b_1 b_2 b_3 b_4 b_5 s t x (fun r0 => K (.v (.bool r0)) [])
  | _, _ => none⟩

theorem sound_tutorref07_now : Sound Tryd.prog 57 (S_tutorref07_now @l_tutorref07_now) := by
  refine fn_sound (cuts := cuts_tutorref07_now) (fn := Tryd.f57) (Γ := T_tutorref07_now) wide right_T_tutorref07_now Tryd.func57 fun {R} K r args ob h => ?_
  unfold S_tutorref07_now at h
  dsimp only at h
  split at h
  · exact ⟨Nat.le_of_ble_eq_true (by kernel_rfl), 0, (gentry_tutorref07_now K _ _ _ _ _ _ _ _ _ _ _ _ _ _ _).trans h⟩
  · cases h

theorem call_tutorref07_now : Callable Tryd.prog 57 := ⟨_, Tryd.func57, by kernel_rfl, by kernel_rfl⟩

def T_tutorref01_Join : FuncId → Option Sum := G0

theorem right_T_tutorref01_Join : Right Tryd.prog T_tutorref01_Join := right_G0

abbrev cuts_tutorref01_Join : Cuts := []

theorem gentry_tutorref01_Join {R : Type} (K : AV → List O → Option R) (a b : List Int) :
    fnRun Tryd.prog T_tutorref01_Join cuts_tutorref01_Join Tryd.f58 0 [.rd ⟨false, 3, (.int .i64), a⟩, .rd ⟨false, 3, (.int .i64), b⟩] [] K =
    (fun (a b : List Int) (K0 : (List Int) → Option R) =>
    bi (decide ((([] : List Int).length + a.length) * 8 ≤ lim))
     (bi (decide (((([] : List Int) ++ a).length + b.length) * 8 ≤ lim))
      (K0 ((([] : List Int) ++ a) ++ b))
      none)
     none) a b (fun r0 => K (.own 0) [.row ⟨true, 3, (.int .i64), r0⟩]) := by kernel_rfl

def S_tutorref01_Join (l_tutorref01_Join : LT_tutorref01_Join) : Sum := ⟨[], fun {R} args ob K => match args, ob with
  | [.rd ⟨false, 3, (.int .i64), a⟩, .rd ⟨false, 3, (.int .i64), b⟩], [] => l_tutorref01_Join a b (fun r0 => K (.own 0) [.row ⟨true, 3, (.int .i64), r0⟩])
  | _, _ => none⟩

theorem sound_tutorref01_Join : Sound Tryd.prog 58 (S_tutorref01_Join @l_tutorref01_Join) := by
  refine fn_sound (cuts := cuts_tutorref01_Join) (fn := Tryd.f58) (Γ := T_tutorref01_Join) wide right_T_tutorref01_Join Tryd.func58 fun {R} K r args ob h => ?_
  unfold S_tutorref01_Join at h
  dsimp only at h
  split at h
  · exact ⟨Nat.le_of_ble_eq_true (by kernel_rfl), 0, (gentry_tutorref01_Join K _ _).trans h⟩
  · cases h

theorem call_tutorref01_Join : Callable Tryd.prog 58 := ⟨_, Tryd.func58, by kernel_rfl, by kernel_rfl⟩

def T_tutorref07_search (l_tutorref07_now : LT_tutorref07_now) (l_tutorref01_Join : LT_tutorref01_Join) : FuncId → Option Sum := (addS (addS G0 57 (S_tutorref07_now @l_tutorref07_now)) 58 (S_tutorref01_Join @l_tutorref01_Join))

theorem right_T_tutorref07_search : Right Tryd.prog (T_tutorref07_search @l_tutorref07_now @l_tutorref01_Join) := (right_add (right_add right_G0 call_tutorref07_now sound_tutorref07_now) call_tutorref01_Join sound_tutorref01_Join)

abbrev cuts_tutorref07_search : Cuts := [(8, [4, 5, 10, 11, 12, 13]), (12, [4, 5, 10, 11, 12, 13, 14, 15, 16])]

abbrev sta_tutorref07_search_8 (i o0 o0_1 o0_2 o0_3 : Int) (o0_4 o0_5 : List Int) (o1 o1_1 o1_2 o1_3 : Int) (o1_4 o1_5 : List Int) (o2 : List Bool) (o3 : List (List Int)) (o4 : List Int) : St := ⟨fr0 146 [(4, .ptr 0 0), (5, .ptr 1 0), (10, .own 2), (11, .nst 3), (12, .own 4), (13, .v (.int .i64 i))], [.box 24 [.v (.int .i64 o0), .v (.int .i64 o0_1), .v (.int .i64 o0_2), .v (.int .i64 o0_3), .rd ⟨false, 3, (.int .i64), o0_4⟩, .rd ⟨false, 3, (.int .i64), o0_5⟩], .box 24 [.v (.int .i64 o1), .v (.int .i64 o1_1), .v (.int .i64 o1_2), .v (.int .i64 o1_3), .rd ⟨false, 3, (.int .i64), o1_4⟩, .rd ⟨false, 3, (.int .i64), o1_5⟩], .row ⟨true, 4, .bool, o2⟩, .nst ⟨true, 22, (.sl 3 (.int .i64)), o3⟩, .row ⟨true, 3, (.int .i64), o4⟩]⟩

abbrev gt_tutorref07_search_8 {R : Type} (g : List Item → St → Option R) : GT_tutorref07_search_8 R := fun (i o0 o0_1 o0_2 o0_3 : Int) (o0_4 o0_5 : List Int) (o1 o1_1 o1_2 o1_3 : Int) (o1_4 o1_5 : List Int) (o2 : List Bool) (o3 : List (List Int)) (o4 : List Int) => g (at' Tryd.f42 8) (sta_tutorref07_search_8 i o0 o0_1 o0_2 o0_3 o0_4 o0_5 o1 o1_1 o1_2 o1_3 o1_4 o1_5 o2 o3 o4)

abbrev sta_tutorref07_search_12 (i s t x o0 o0_1 o0_2 o0_3 : Int) (o0_4 o0_5 : List Int) (o1 o1_1 o1_2 o1_3 : Int) (o1_4 o1_5 : List Int) (o2 : List Bool) (o3 : List (List Int)) (o4 : List Int) : St := ⟨fr0 146 [(4, .ptr 0 0), (5, .ptr 1 0), (10, .own 2), (11, .nst 3), (12, .own 4), (13, .v (.int .i64 i)), (14, .v (.int .i64 s)), (15, .v (.int .i64 t)), (16, .v (.int .i64 x))], [.box 24 [.v (.int .i64 o0), .v (.int .i64 o0_1), .v (.int .i64 o0_2), .v (.int .i64 o0_3), .rd ⟨false, 3, (.int .i64), o0_4⟩, .rd ⟨false, 3, (.int .i64), o0_5⟩], .box 24 [.v (.int .i64 o1), .v (.int .i64 o1_1), .v (.int .i64 o1_2), .v (.int .i64 o1_3), .rd ⟨false, 3, (.int .i64), o1_4⟩, .rd ⟨false, 3, (.int .i64), o1_5⟩], .row ⟨true, 4, .bool, o2⟩, .nst ⟨true, 22, (.sl 3 (.int .i64)), o3⟩, .row ⟨true, 3, (.int .i64), o4⟩]⟩

abbrev gt_tutorref07_search_12 {R : Type} (g : List Item → St → Option R) : GT_tutorref07_search_12 R := fun (i s t x o0 o0_1 o0_2 o0_3 : Int) (o0_4 o0_5 : List Int) (o1 o1_1 o1_2 o1_3 : Int) (o1_4 o1_5 : List Int) (o2 : List Bool) (o3 : List (List Int)) (o4 : List Int) => g (at' Tryd.f42 12) (sta_tutorref07_search_12 i s t x o0 o0_1 o0_2 o0_3 o0_4 o0_5 o1 o1_1 o1_2 o1_3 o1_4 o1_5 o2 o3 o4)

theorem gstep_tutorref07_search_8 (l_tutorref07_now : LT_tutorref07_now) (l_tutorref01_Join : LT_tutorref01_Join) {R : Type} (g : List Item → St → Option R) (K : AV → List O → Option R) (i o0 o0_1 o0_2 o0_3 : Int) (o0_4 o0_5 : List Int) (o1 o1_1 o1_2 o1_3 : Int) (o1_4 o1_5 : List Int) (o2 : List Bool) (o3 : List (List Int)) (o4 : List Int) :
    runSeg Tryd.prog (T_tutorref07_search @l_tutorref07_now @l_tutorref01_Join) cuts_tutorref07_search 0 g (finish Tryd.prog Tryd.f42 0 K) (at' Tryd.f42 8) (sta_tutorref07_search_8 i o0 o0_1 o0_2 o0_3 o0_4 o0_5 o1 o1_1 o1_2 o1_3 o1_4 o1_5 o2 o3 o4) =
    (fun (g42_8 : GT_tutorref07_search_8 R) (g42_12 : GT_tutorref07_search_12 R) (K0 : Bool → (List Int) → Option R) (i o0 o0_1 o0_2 o0_3 : Int) (o0_4 o0_5 : List Int) (o1 o1_1 o1_2 o1_3 : Int) (o1_4 o1_5 : List Int) (o2 : List Bool) (o3 : List (List Int)) (o4 : List Int) =>
    bi (decide (i < (o3.length : Int)))
     (bi (decide (0 ≤ i ∧ i < ((o4.length : Nat) : Int)))
      (bi (decide (o1_3 = 0))
       none
       (bi (decide (0 ≤ i ∧ i < ((o4.length : Nat) : Int)))
        (bi (decide (o1_3 = 0))
         none
         (g42_12 i (IntKind.i64.wrap ((o4.getD i.toNat 0).tdiv o1_3)) ((o4.getD i.toNat 0).tmod o1_3) 0 o0 o0_1 o0_2 o0_3 o0_4 o0_5 o1 o1_1 o1_2 o1_3 o1_4 o1_5 o2 o3 o4))
        none))
      none)
     (K0 false ([] : List Int))) (gt_tutorref07_search_8 g) (gt_tutorref07_search_12 g) (fun r0 r1 => K (.tup [.own 0, .v (.bool r0)]) [.row ⟨true, 3, (.int .i64), r1⟩]) i o0 o0_1 o0_2 o0_3 o0_4 o0_5 o1 o1_1 o1_2 o1_3 o1_4 o1_5 o2 o3 o4 := by kernel_rfl

theorem gstep_tutorref07_search_12 (l_tutorref07_now : LT_tutorref07_now) (l_tutorref01_Join : LT_tutorref01_Join) {R : Type} (g : List Item → St → Option R) (K : AV → List O → Option R) (i s t x o0 o0_1 o0_2 o0_3 : Int) (o0_4 o0_5 : List Int) (o1 o1_1 o1_2 o1_3 : Int) (o1_4 o1_5 : List Int) (o2 : List Bool) (o3 : List (List Int)) (o4 : List Int) :
    runSeg Tryd.prog (T_tutorref07_search @l_tutorref07_now @l_tutorref01_Join) cuts_tutorref07_search 0 g (finish Tryd.prog Tryd.f42 0 K) (at' Tryd.f42 12) (sta_tutorref07_search_12 i s t x o0 o0_1 o0_2 o0_3 o0_4 o0_5 o1 o1_1 o1_2 o1_3 o1_4 o1_5 o2 o3 o4) =
    (fun (g42_8 : GT_tutorref07_search_8 R) (g42_12 : GT_tutorref07_search_12 R) (K0 : Bool → (List Int) → Option R) (i s t x o0 o0_1 o0_2 o0_3 : Int) (o0_4 o0_5 : List Int) (o1 o1_1 o1_2 o1_3 : Int) (o1_4 o1_5 : List Int) (o2 : List Bool) (o3 : List (List Int)) (o4 : List Int) =>
    bi (decide (x < o0_1))
     (bi (decide (0 ≤ i ∧ i < ((o3.length : Nat) : Int)))
      (l_tutorref01_Join (o3.getD i.toNat []) [x]
       (fun r2 =>
        bi (decide (0 ≤ (IntKind.i64.wrap ((IntKind.i64.wrap (s * o0_1)) + x)) ∧ (IntKind.i64.wrap ((IntKind.i64.wrap (s * o0_1)) + x)) < ((o0_4.length : Nat) : Int)))
         (bi (decide (0 ≤ (IntKind.i64.wrap ((IntKind.i64.wrap (t * o1_1)) + x)) ∧ (IntKind.i64.wrap ((IntKind.i64.wrap (t * o1_1)) + x)) < ((o1_4.length : Nat) : Int)))
          (l_tutorref07_now o0 o0_1 o0_2 o0_3 o0_4 o0_5 o1 o1_1 o1_2 o1_3 o1_4 o1_5 s t x
           (fun r3 =>
            bi r3
             (K0 true r2)
             (l_tutorref07_now o0 o0_1 o0_2 o0_3 o0_4 o0_5 o1 o1_1 o1_2 o1_3 o1_4 o1_5 (o0_4.getD ((IntKind.i64.wrap ((IntKind.i64.wrap (s * o0_1)) + x)).toNat) 0) (o1_4.getD ((IntKind.i64.wrap ((IntKind.i64.wrap (t * o1_1)) + x)).toNat) 0) (-1)
              (fun r4 =>
               bi r4
                (K0 true r2)
                (bi (decide (0 ≤ (IntKind.i64.wrap ((IntKind.i64.wrap ((o0_4.getD ((IntKind.i64.wrap ((IntKind.i64.wrap (s * o0_1)) + x)).toNat) 0) * o1_3)) + (o1_4.getD ((IntKind.i64.wrap ((IntKind.i64.wrap (t * o1_1)) + x)).toNat) 0))) ∧ (IntKind.i64.wrap ((IntKind.i64.wrap ((o0_4.getD ((IntKind.i64.wrap ((IntKind.i64.wrap (s * o0_1)) + x)).toNat) 0) * o1_3)) + (o1_4.getD ((IntKind.i64.wrap ((IntKind.i64.wrap (t * o1_1)) + x)).toNat) 0))) < ((o2.length : Nat) : Int)))
                 (bi (!(o2.getD ((IntKind.i64.wrap ((IntKind.i64.wrap ((o0_4.getD ((IntKind.i64.wrap ((IntKind.i64.wrap (s * o0_1)) + x)).toNat) 0) * o1_3)) + (o1_4.getD ((IntKind.i64.wrap ((IntKind.i64.wrap (t * o1_1)) + x)).toNat) 0))).toNat) false))
                  (bi (decide (0 ≤ (IntKind.i64.wrap ((IntKind.i64.wrap ((o0_4.getD ((IntKind.i64.wrap ((IntKind.i64.wrap (s * o0_1)) + x)).toNat) 0) * o1_3)) + (o1_4.getD ((IntKind.i64.wrap ((IntKind.i64.wrap (t * o1_1)) + x)).toNat) 0))) ∧ (IntKind.i64.wrap ((IntKind.i64.wrap ((o0_4.getD ((IntKind.i64.wrap ((IntKind.i64.wrap (s * o0_1)) + x)).toNat) 0) * o1_3)) + (o1_4.getD ((IntKind.i64.wrap ((IntKind.i64.wrap (t * o1_1)) + x)).toNat) 0))) < ((o2.length : Nat) : Int)))
                   (bi (decide ((o3.length + [r2].length) * 24 ≤ lim))
                    (bi (decide ((o4.length + [IntKind.i64.wrap ((IntKind.i64.wrap ((o0_4.getD ((IntKind.i64.wrap ((IntKind.i64.wrap (s * o0_1)) + x)).toNat) 0) * o1_3)) + (o1_4.getD ((IntKind.i64.wrap ((IntKind.i64.wrap (t * o1_1)) + x)).toNat) 0))].length) * 8 ≤ lim))
                     (g42_12 i s t (IntKind.i64.wrap (x + 1)) o0 o0_1 o0_2 o0_3 o0_4 o0_5 o1 o1_1 o1_2 o1_3 o1_4 o1_5 (o2.set ((IntKind.i64.wrap ((IntKind.i64.wrap ((o0_4.getD ((IntKind.i64.wrap ((IntKind.i64.wrap (s * o0_1)) + x)).toNat) 0) * o1_3)) + (o1_4.getD ((IntKind.i64.wrap ((IntKind.i64.wrap (t * o1_1)) + x)).toNat) 0))).toNat) true) (o3 ++ [r2]) (o4 ++ [IntKind.i64.wrap ((IntKind.i64.wrap ((o0_4.getD ((IntKind.i64.wrap ((IntKind.i64.wrap (s * o0_1)) + x)).toNat) 0) * o1_3)) + (o1_4.getD ((IntKind.i64.wrap ((IntKind.i64.wrap (t * o1_1)) + x)).toNat) 0))]))
                     none)
                    none)
                   none)
                  (g42_12 i s t (IntKind.i64.wrap (x + 1)) o0 o0_1 o0_2 o0_3 o0_4 o0_5 o1 o1_1 o1_2 o1_3 o1_4 o1_5 o2 o3 o4))
                 none)))))
          none)
         none))
      none)
     (g42_8 (IntKind.i64.wrap (i + 1)) o0 o0_1 o0_2 o0_3 o0_4 o0_5 o1 o1_1 o1_2 o1_3 o1_4 o1_5 o2 o3 o4)) (gt_tutorref07_search_8 g) (gt_tutorref07_search_12 g) (fun r0 r1 => K (.tup [.own 0, .v (.bool r0)]) [.row ⟨true, 3, (.int .i64), r1⟩]) i s t x o0 o0_1 o0_2 o0_3 o0_4 o0_5 o1 o1_1 o1_2 o1_3 o1_4 o1_5 o2 o3 o4 := by kernel_rfl

theorem gentry_tutorref07_search (l_tutorref07_now : LT_tutorref07_now) (l_tutorref01_Join : LT_tutorref01_Join) {R : Type} (fuel : Nat) (K : AV → List O → Option R) (a a_1 a_2 a_3 : Int) (a_4 a_5 : List Int) (b b_1 b_2 b_3 : Int) (b_4 b_5 : List Int) (s t : Int) :
    fnRun Tryd.prog (T_tutorref07_search @l_tutorref07_now @l_tutorref01_Join) cuts_tutorref07_search Tryd.f42 fuel [.agg [.v (.int .i64 a), .v (.int .i64 a_1), .v (.int .i64 a_2), .v (.int .i64 a_3), .rd ⟨false, 3, (.int .i64), a_4⟩, .rd ⟨false, 3, (.int .i64), a_5⟩], .agg [.v (.int .i64 b), .v (.int .i64 b_1), .v (.int .i64 b_2), .v (.int .i64 b_3), .rd ⟨false, 3, (.int .i64), b_4⟩, .rd ⟨false, 3, (.int .i64), b_5⟩], .v (.int .i64 s), .v (.int .i64 t)] [] K =
    (fun (g42_8 : GT_tutorref07_search_8 R) (g42_12 : GT_tutorref07_search_12 R) (K0 : Bool → (List Int) → Option R) (a a_1 a_2 a_3 : Int) (a_4 a_5 : List Int) (b b_1 b_2 b_3 : Int) (b_4 b_5 : List Int) (s t : Int) =>
    l_tutorref07_now a a_1 a_2 a_3 a_4 a_5 b b_1 b_2 b_3 b_4 b_5 s t (-1)
     (fun r1 =>
      bi r1
       (K0 true ([] : List Int))
       (bi (decide (0 ≤ (IntKind.i64.wrap (a_3 * b_3)) ∧ (IntKind.i64.wrap (a_3 * b_3)) ≤ (IntKind.i64.wrap (a_3 * b_3)) ∧ (IntKind.i64.wrap (a_3 * b_3)) ≤ 1073741824))
        (bi (decide (0 ≤ (IntKind.i64.wrap ((IntKind.i64.wrap (s * b_3)) + t)) ∧ (IntKind.i64.wrap ((IntKind.i64.wrap (s * b_3)) + t)) < (((List.replicate (IntKind.i64.wrap (a_3 * b_3)).toNat (false : Bool)).length : Nat) : Int)))
         (g42_8 0 a a_1 a_2 a_3 a_4 a_5 b b_1 b_2 b_3 b_4 b_5 ((List.replicate (IntKind.i64.wrap (a_3 * b_3)).toNat (false : Bool)).set ((IntKind.i64.wrap ((IntKind.i64.wrap (s * b_3)) + t)).toNat) true) [([] : List Int)] [IntKind.i64.wrap ((IntKind.i64.wrap (s * b_3)) + t)])
         none)
        none))) (gt_tutorref07_search_8 (runO Tryd.prog (T_tutorref07_search @l_tutorref07_now @l_tutorref01_Join) cuts_tutorref07_search 0 (finish Tryd.prog Tryd.f42 0 K) fuel)) (gt_tutorref07_search_12 (runO Tryd.prog (T_tutorref07_search @l_tutorref07_now @l_tutorref01_Join) cuts_tutorref07_search 0 (finish Tryd.prog Tryd.f42 0 K) fuel)) (fun r0 r1 => K (.tup [.own 0, .v (.bool r0)]) [.row ⟨true, 3, (.int .i64), r1⟩]) a a_1 a_2 a_3 a_4 a_5 b b_1 b_2 b_3 b_4 b_5 s t := by kernel_rfl

theorem runs_tutorref07_search {R : Type} (K : AV → List O → Option R) : ∀ fuel : Nat,
    (gt_tutorref07_search_8 (runO Tryd.prog (T_tutorref07_search @l_tutorref07_now @l_tutorref01_Join) cuts_tutorref07_search 0 (finish Tryd.prog Tryd.f42 0 K) fuel)) = (run_tutorref07_search (fun r0 r1 => K (.tup [.own 0, .v (.bool r0)]) [.row ⟨true, 3, (.int .i64), r1⟩]) fuel).1 ∧
    (gt_tutorref07_search_12 (runO Tryd.prog (T_tutorref07_search @l_tutorref07_now @l_tutorref01_Join) cuts_tutorref07_search 0 (finish Tryd.prog Tryd.f42 0 K) fuel)) = (run_tutorref07_search (fun r0 r1 => K (.tup [.own 0, .v (.bool r0)]) [.row ⟨true, 3, (.int .i64), r1⟩]) fuel).2
  | 0 => ⟨rfl, rfl⟩
  | fuel + 1 => by
    have ih := runs_tutorref07_search K fuel
    refine ⟨?_, ?_⟩
    · funext i o0 o0_1 o0_2 o0_3 o0_4 o0_5 o1 o1_1 o1_2 o1_3 o1_4 o1_5 o2 o3 o4
      refine (gstep_tutorref07_search_8 @l_tutorref07_now @l_tutorref01_Join _ K i o0 o0_1 o0_2 o0_3 o0_4 o0_5 o1 o1_1 o1_2 o1_3 o1_4 o1_5 o2 o3 o4).trans ?_
      rw [ih.1, ih.2]
      rfl
    · funext i s t x o0 o0_1 o0_2 o0_3 o0_4 o0_5 o1 o1_1 o1_2 o1_3 o1_4 o1_5 o2 o3 o4
      refine (gstep_tutorref07_search_12 @l_tutorref07_now @l_tutorref01_Join _ K i s t x o0 o0_1 o0_2 o0_3 o0_4 o0_5 o1 o1_1 o1_2 o1_3 o1_4 o1_5 o2 o3 o4).trans ?_
      rw [ih.1, ih.2]
      rfl

def S_tutorref07_search (l_tutorref07_search : LT_tutorref07_search) : Sum := ⟨[], fun {R} args ob K => match args, ob with
  | [.agg [.v (.int .i64 a), .v (.int .i64 a_1), .v (.int .i64 a_2), .v (.int .i64 a_3), .rd ⟨false, 3, (.int .i64), a_4⟩, .rd ⟨false, 3, (.int .i64), a_5⟩], .agg [.v (.int .i64 b), .v (.int .i64 b_1), .v (.int .i64 b_2), .v (.int .i64 b_3), .rd ⟨false, 3, (.int .i64), b_4⟩, .rd ⟨false, 3, (.int .i64), b_5⟩], .v (.int .i64 s), .v (.int .i64 t)], [] => l_tutorref07_search a a_1 a_2 a_3 a_4 a_5 b b_1 b_2 b_3 b_4 b_5 s t (fun r0 r1 => K (.tup [.own 0, .v (.bool r0)]) [.row ⟨true, 3, (.int .i64), r1⟩])
  | _, _ => none⟩

theorem sound_tutorref07_search : Sound Tryd.prog 42 (S_tutorref07_search @l_tutorref07_search) := by
  refine fn_sound (cuts := cuts_tutorref07_search) (fn := Tryd.f42) (Γ := (T_tutorref07_search @l_tutorref07_now @l_tutorref01_Join)) wide right_T_tutorref07_search Tryd.func42 fun {R} K r args ob h => ?_
  unfold S_tutorref07_search at h
  dsimp only at h
  split at h
  · obtain ⟨n, hn⟩ := ok_tutorref07_search _ _ _ _ _ _ _ _ _ _ _ _ _ _ _ h
    refine ⟨Nat.le_of_ble_eq_true (by kernel_rfl), n, (gentry_tutorref07_search @l_tutorref07_now @l_tutorref01_Join n K _ _ _ _ _ _ _ _ _ _ _ _ _ _).trans ?_⟩
    rw [(runs_tutorref07_search K n).1, (runs_tutorref07_search K n).2]
    exact hn
  · cases h

theorem call_tutorref07_search : Callable Tryd.prog 42 := ⟨_, Tryd.func42, by kernel_rfl, by kernel_rfl⟩

def T_tutorref07_Separate (l_tutorref07_search : LT_tutorref07_search) (l_tutorref03_Check : LT_tutorref03_Check) : FuncId → Option Sum := (addS (addS G0 42 (S_tutorref07_search @l_tutorref07_search)) 36 (S_tutorref03_Check @l_tutorref03_Check))

theorem right_T_tutorref07_Separate : Right Tryd.prog (T_tutorref07_Separate @l_tutorref07_search @l_tutorref03_Check) := (right_add (right_add right_G0 call_tutorref07_search sound_tutorref07_search) call_tutorref03_Check sound_tutorref03_Check)

abbrev cuts_tutorref07_Separate : Cuts := []

theorem gentry_tutorref07_Separate (l_tutorref07_search : LT_tutorref07_search) (l_tutorref03_Check : LT_tutorref03_Check) {R : Type} (K : AV → List O → Option R) (a a_1 a_2 a_3 : Int) (a_4 a_5 : List Int) (b b_1 b_2 b_3 : Int) (b_4 b_5 : List Int) :
    fnRun Tryd.prog (T_tutorref07_Separate @l_tutorref07_search @l_tutorref03_Check) cuts_tutorref07_Separate Tryd.f26 0 [.agg [.v (.int .i64 a), .v (.int .i64 a_1), .v (.int .i64 a_2), .v (.int .i64 a_3), .rd ⟨false, 3, (.int .i64), a_4⟩, .rd ⟨false, 3, (.int .i64), a_5⟩], .agg [.v (.int .i64 b), .v (.int .i64 b_1), .v (.int .i64 b_2), .v (.int .i64 b_3), .rd ⟨false, 3, (.int .i64), b_4⟩, .rd ⟨false, 3, (.int .i64), b_5⟩]] [] K =
    (fun (a a_1 a_2 a_3 : Int) (a_4 a_5 : List Int) (b b_1 b_2 b_3 : Int) (b_4 b_5 : List Int) (K0 : Bool → Int → (List Int) → Option R) =>
    l_tutorref03_Check a a_1 a_2 a_3 a_4 a_5
     (fun r1 r2 =>
      bi (r2 != 0)
       (K0 false r2 ([] : List Int))
       (l_tutorref03_Check b b_1 b_2 b_3 b_4 b_5
        (fun r3 r4 =>
         bi (r4 != 0)
          (K0 false r4 ([] : List Int))
          (bi (a != b)
           (K0 false 30 ([] : List Int))
           (bi (a_1 != b_1)
            (K0 false 1 ([] : List Int))
            (bi (a_2 != b_2)
             (K0 false 33 ([] : List Int))
             (l_tutorref07_search a a_1 a_2 a_3 a_4 a_5 b b_1 b_2 b_3 b_4 b_5 0 0
              (fun r5 r6 =>
               K0 r5 0 r6))))))))) a a_1 a_2 a_3 a_4 a_5 b b_1 b_2 b_3 b_4 b_5 (fun r0 r1 r2 => K (.tup [.own 0, .v (.bool r0), .v (.int .i64 r1)]) [.row ⟨true, 3, (.int .i64), r2⟩]) := by kernel_rfl

def S_tutorref07_Separate (l_tutorref07_Separate : LT_tutorref07_Separate) : Sum := ⟨[], fun {R} args ob K => match args, ob with
  | [.agg [.v (.int .i64 a), .v (.int .i64 a_1), .v (.int .i64 a_2), .v (.int .i64 a_3), .rd ⟨false, 3, (.int .i64), a_4⟩, .rd ⟨false, 3, (.int .i64), a_5⟩], .agg [.v (.int .i64 b), .v (.int .i64 b_1), .v (.int .i64 b_2), .v (.int .i64 b_3), .rd ⟨false, 3, (.int .i64), b_4⟩, .rd ⟨false, 3, (.int .i64), b_5⟩]], [] => l_tutorref07_Separate a a_1 a_2 a_3 a_4 a_5 b b_1 b_2 b_3 b_4 b_5 (fun r0 r1 r2 => K (.tup [.own 0, .v (.bool r0), .v (.int .i64 r1)]) [.row ⟨true, 3, (.int .i64), r2⟩])
  | _, _ => none⟩

theorem sound_tutorref07_Separate : Sound Tryd.prog 26 (S_tutorref07_Separate @l_tutorref07_Separate) := by
  refine fn_sound (cuts := cuts_tutorref07_Separate) (fn := Tryd.f26) (Γ := (T_tutorref07_Separate @l_tutorref07_search @l_tutorref03_Check)) wide right_T_tutorref07_Separate Tryd.func26 fun {R} K r args ob h => ?_
  unfold S_tutorref07_Separate at h
  dsimp only at h
  split at h
  · exact ⟨Nat.le_of_ble_eq_true (by kernel_rfl), 0, (gentry_tutorref07_Separate @l_tutorref07_search @l_tutorref03_Check K _ _ _ _ _ _ _ _ _ _ _ _).trans h⟩
  · cases h

theorem call_tutorref07_Separate : Callable Tryd.prog 26 := ⟨_, Tryd.func26, by kernel_rfl, by kernel_rfl⟩

def T_tutorref05_now : FuncId → Option Sum := G0

theorem right_T_tutorref05_now : Right Tryd.prog T_tutorref05_now := right_G0

abbrev cuts_tutorref05_now : Cuts := [(4, [1, 2, 3, 7])]

abbrev sta_tutorref05_now_4 (s t x o0 o0_1 o0_2 o0_3 : Int) (o0_4 o0_5 : List Int) : St := ⟨fr0 49 [(1, .v (.int .i64 s)), (2, .v (.int .i64 t)), (3, .ptr 0 0), (7, .v (.int .i64 x))], [.box 24 [.v (.int .i64 o0), .v (.int .i64 o0_1), .v (.int .i64 o0_2), .v (.int .i64 o0_3), .rd ⟨false, 3, (.int .i64), o0_4⟩, .rd ⟨false, 3, (.int .i64), o0_5⟩]]⟩

abbrev gt_tutorref05_now_4 {R : Type} (g : List Item → St → Option R) : GT_tutorref05_now_4 R := fun (s t x o0 o0_1 o0_2 o0_3 : Int) (o0_4 o0_5 : List Int) => g (at' Tryd.f72 4) (sta_tutorref05_now_4 s t x o0 o0_1 o0_2 o0_3 o0_4 o0_5)

theorem gstep_tutorref05_now_4 {R : Type} (g : List Item → St → Option R) (K : AV → List O → Option R) (s t x o0 o0_1 o0_2 o0_3 : Int) (o0_4 o0_5 : List Int) :
    runSeg Tryd.prog T_tutorref05_now cuts_tutorref05_now 0 g (finish Tryd.prog Tryd.f72 0 K) (at' Tryd.f72 4) (sta_tutorref05_now_4 s t x o0 o0_1 o0_2 o0_3 o0_4 o0_5) =
    (fun (g72_4 : GT_tutorref05_now_4 R) (K0 : Bool → Option R) (s t x o0 o0_1 o0_2 o0_3 : Int) (o0_4 o0_5 : List Int) =>
    bi (decide (x < o0_1))
     (bi (decide (0 ≤ (IntKind.i64.wrap ((IntKind.i64.wrap (s * o0_1)) + x)) ∧ (IntKind.i64.wrap ((IntKind.i64.wrap (s * o0_1)) + x)) < ((o0_5.length : Nat) : Int)))
      (bi (decide (0 ≤ (IntKind.i64.wrap ((IntKind.i64.wrap (t * o0_1)) + x)) ∧ (IntKind.i64.wrap ((IntKind.i64.wrap (t * o0_1)) + x)) < ((o0_5.length : Nat) : Int)))
       (bi ((o0_5.getD ((IntKind.i64.wrap ((IntKind.i64.wrap (s * o0_1)) + x)).toNat) 0) != (o0_5.getD ((IntKind.i64.wrap ((IntKind.i64.wrap (t * o0_1)) + x)).toNat) 0))
        (K0 false)
        (g72_4 s t (IntKind.i64.wrap (x + 1)) o0 o0_1 o0_2 o0_3 o0_4 o0_5))
       none)
      none)
     (K0 true)) (gt_tutorref05_now_4 g) (fun r0 => K (.v (.bool r0)) []) s t x o0 o0_1 o0_2 o0_3 o0_4 o0_5 := by kernel_rfl

theorem gentry_tutorref05_now {R : Type} (fuel : Nat) (K : AV → List O → Option R) (m m_1 m_2 m_3 : Int) (m_4 m_5 : List Int) (s t : Int) :
    fnRun Tryd.prog T_tutorref05_now cuts_tutorref05_now Tryd.f72 fuel [.agg [.v (.int .i64 m), .v (.int .i64 m_1), .v (.int .i64 m_2), .v (.int .i64 m_3), .rd ⟨false, 3, (.int .i64), m_4⟩, .rd ⟨false, 3, (.int .i64), m_5⟩], .v (.int .i64 s), .v (.int .i64 t)] [] K =
    (fun (g72_4 : GT_tutorref05_now_4 R) (K0 : Bool → Option R) (m m_1 m_2 m_3 : Int) (m_4 m_5 : List Int) (s t : Int) =>
    bi (m == 1)
     (bi (decide (0 ≤ s ∧ s < ((m_5.length : Nat) : Int)))
      (bi (decide (0 ≤ t ∧ t < ((m_5.length : Nat) : Int)))
       (K0 ((m_5.getD s.toNat 0) == (m_5.getD t.toNat 0)))
       none)
      none)
     (g72_4 s t 0 m m_1 m_2 m_3 m_4 m_5)) (gt_tutorref05_now_4 (runO Tryd.prog T_tutorref05_now cuts_tutorref05_now 0 (finish Tryd.prog Tryd.f72 0 K) fuel)) (fun r0 => K (.v (.bool r0)) []) m m_1 m_2 m_3 m_4 m_5 s t := by kernel_rfl

theorem runs_tutorref05_now {R : Type} (K : AV → List O → Option R) : ∀ fuel : Nat,
    (gt_tutorref05_now_4 (runO Tryd.prog T_tutorref05_now cuts_tutorref05_now 0 (finish Tryd.prog Tryd.f72 0 K) fuel)) = (run_tutorref05_now (fun r0 => K (.v (.bool r0)) []) fuel)
  | 0 => rfl
  | fuel + 1 => by
    have ih := runs_tutorref05_now K fuel
    funext s t x o0 o0_1 o0_2 o0_3 o0_4 o0_5
    refine (gstep_tutorref05_now_4 _ K s t x o0 o0_1 o0_2 o0_3 o0_4 o0_5).trans ?_
    rw [ih]
    rfl

def S_tutorref05_now (l_tutorref05_now : LT_tutorref05_now) : Sum := ⟨[], fun {R} args ob K => match args, ob with
  | [.agg [.v (.int .i64 m), .v (.int .i64 m_1), .v (.int .i64 m_2), .v (.int .i64 m_3), .rd ⟨false, 3, (.int .i64), m_4⟩, .rd ⟨false, 3, (.int .i64), m_5⟩], .v (.int .i64 s), .v (.int .i64 t)], [] => l_tutorref05_now m m_1 m_2 m_3 m_4 m_5 s t (fun r0 => K (.v (.bool r0)) [])
  | _, _ => none⟩

theorem sound_tutorref05_now : Sound Tryd.prog 72 (S_tutorref05_now @l_tutorref05_now) := by
  refine fn_sound (cuts := cuts_tutorref05_now) (fn := Tryd.f72) (Γ := T_tutorref05_now) wide right_T_tutorref05_now Tryd.func72 fun {R} K r args ob h => ?_
  unfold S_tutorref05_now at h
  dsimp only at h
  split at h
  · obtain ⟨n, hn⟩ := ok_tutorref05_now _ _ _ _ _ _ _ _ _ h
    refine ⟨Nat.le_of_ble_eq_true (by kernel_rfl), n, (gentry_tutorref05_now n K _ _ _ _ _ _ _ _).trans ?_⟩
    rw [(runs_tutorref05_now K n)]
    exact hn
  · cases h

theorem call_tutorref05_now : Callable Tryd.prog 72 := ⟨_, Tryd.func72, by kernel_rfl, by kernel_rfl⟩

def T_tutorref05_start (l_tutorref05_now : LT_tutorref05_now) : FuncId → Option Sum := (addS G0 72 (S_tutorref05_now @l_tutorref05_now))

theorem right_T_tutorref05_start : Right Tryd.prog (T_tutorref05_start @l_tutorref05_now) := (right_add right_G0 call_tutorref05_now sound_tutorref05_now)

abbrev cuts_tutorref05_start : Cuts := [(3, [1, 3, 4]), (7, [1, 3, 4, 5, 6])]

abbrev sta_tutorref05_start_3 (s o0 o0_1 o0_2 o0_3 : Int) (o0_4 o0_5 : List Int) (o1 : List (List Bool)) : St := ⟨fr0 40 [(1, .ptr 0 0), (3, .nst 1), (4, .v (.int .i64 s))], [.box 24 [.v (.int .i64 o0), .v (.int .i64 o0_1), .v (.int .i64 o0_2), .v (.int .i64 o0_3), .rd ⟨false, 3, (.int .i64), o0_4⟩, .rd ⟨false, 3, (.int .i64), o0_5⟩], .nst ⟨true, 115, (.sl 4 .bool), o1⟩]⟩

abbrev gt_tutorref05_start_3 {R : Type} (g : List Item → St → Option R) : GT_tutorref05_start_3 R := fun (s o0 o0_1 o0_2 o0_3 : Int) (o0_4 o0_5 : List Int) (o1 : List (List Bool)) => g (at' Tryd.f59 3) (sta_tutorref05_start_3 s o0 o0_1 o0_2 o0_3 o0_4 o0_5 o1)

abbrev sta_tutorref05_start_7 (s t o0 o0_1 o0_2 o0_3 : Int) (o0_4 o0_5 : List Int) (o1 : List (List Bool)) (o2 : List Bool) : St := ⟨fr0 40 [(1, .ptr 0 0), (3, .nst 1), (4, .v (.int .i64 s)), (5, .own 2), (6, .v (.int .i64 t))], [.box 24 [.v (.int .i64 o0), .v (.int .i64 o0_1), .v (.int .i64 o0_2), .v (.int .i64 o0_3), .rd ⟨false, 3, (.int .i64), o0_4⟩, .rd ⟨false, 3, (.int .i64), o0_5⟩], .nst ⟨true, 115, (.sl 4 .bool), o1⟩, .row ⟨true, 4, .bool, o2⟩]⟩

abbrev gt_tutorref05_start_7 {R : Type} (g : List Item → St → Option R) : GT_tutorref05_start_7 R := fun (s t o0 o0_1 o0_2 o0_3 : Int) (o0_4 o0_5 : List Int) (o1 : List (List Bool)) (o2 : List Bool) => g (at' Tryd.f59 7) (sta_tutorref05_start_7 s t o0 o0_1 o0_2 o0_3 o0_4 o0_5 o1 o2)

theorem gstep_tutorref05_start_3 (l_tutorref05_now : LT_tutorref05_now) {R : Type} (g : List Item → St → Option R) (K : AV → List O → Option R) (s o0 o0_1 o0_2 o0_3 : Int) (o0_4 o0_5 : List Int) (o1 : List (List Bool)) :
    runSeg Tryd.prog (T_tutorref05_start @l_tutorref05_now) cuts_tutorref05_start 0 g (finish Tryd.prog Tryd.f59 0 K) (at' Tryd.f59 3) (sta_tutorref05_start_3 s o0 o0_1 o0_2 o0_3 o0_4 o0_5 o1) =
    (fun (g59_3 : GT_tutorref05_start_3 R) (g59_7 : GT_tutorref05_start_7 R) (K0 : (List (List Bool)) → Option R) (s o0 o0_1 o0_2 o0_3 : Int) (o0_4 o0_5 : List Int) (o1 : List (List Bool)) =>
    bi (decide (s < o0_3))
     (bi (decide (0 ≤ o0_3 ∧ o0_3 ≤ o0_3 ∧ o0_3 ≤ 1073741824))
      (g59_7 s 0 o0 o0_1 o0_2 o0_3 o0_4 o0_5 o1 (List.replicate o0_3.toNat (false : Bool)))
      none)
     (K0 o1)) (gt_tutorref05_start_3 g) (gt_tutorref05_start_7 g) (fun r0 => K (.nst 0) [.nst ⟨true, 115, (.sl 4 .bool), r0⟩]) s o0 o0_1 o0_2 o0_3 o0_4 o0_5 o1 := by kernel_rfl

theorem gstep_tutorref05_start_7 (l_tutorref05_now : LT_tutorref05_now) {R : Type} (g : List Item → St → Option R) (K : AV → List O → Option R) (s t o0 o0_1 o0_2 o0_3 : Int) (o0_4 o0_5 : List Int) (o1 : List (List Bool)) (o2 : List Bool) :
    runSeg Tryd.prog (T_tutorref05_start @l_tutorref05_now) cuts_tutorref05_start 0 g (finish Tryd.prog Tryd.f59 0 K) (at' Tryd.f59 7) (sta_tutorref05_start_7 s t o0 o0_1 o0_2 o0_3 o0_4 o0_5 o1 o2) =
    (fun (g59_3 : GT_tutorref05_start_3 R) (g59_7 : GT_tutorref05_start_7 R) (K0 : (List (List Bool)) → Option R) (s t o0 o0_1 o0_2 o0_3 : Int) (o0_4 o0_5 : List Int) (o1 : List (List Bool)) (o2 : List Bool) =>
    bi (decide (t < o0_3))
     (bi (o0 == 1)
      (l_tutorref05_now o0 o0_1 o0_2 o0_3 o0_4 o0_5 s t
       (fun r1 =>
        bi (decide (0 ≤ t ∧ t < ((o2.length : Nat) : Int)))
         (g59_7 s (IntKind.i64.wrap (t + 1)) o0 o0_1 o0_2 o0_3 o0_4 o0_5 o1 (o2.set t.toNat (!r1)))
         none))
      (bi (decide (0 ≤ t ∧ t < ((o2.length : Nat) : Int)))
       (g59_7 s (IntKind.i64.wrap (t + 1)) o0 o0_1 o0_2 o0_3 o0_4 o0_5 o1 (o2.set t.toNat false))
       none))
     (bi (decide ((o1.length + [o2].length) * 24 ≤ lim))
      (g59_3 (IntKind.i64.wrap (s + 1)) o0 o0_1 o0_2 o0_3 o0_4 o0_5 (o1 ++ [o2]))
      none)) (gt_tutorref05_start_3 g) (gt_tutorref05_start_7 g) (fun r0 => K (.nst 0) [.nst ⟨true, 115, (.sl 4 .bool), r0⟩]) s t o0 o0_1 o0_2 o0_3 o0_4 o0_5 o1 o2 := by kernel_rfl

theorem gentry_tutorref05_start (l_tutorref05_now : LT_tutorref05_now) {R : Type} (fuel : Nat) (K : AV → List O → Option R) (m m_1 m_2 m_3 : Int) (m_4 m_5 : List Int) :
    fnRun Tryd.prog (T_tutorref05_start @l_tutorref05_now) cuts_tutorref05_start Tryd.f59 fuel [.agg [.v (.int .i64 m), .v (.int .i64 m_1), .v (.int .i64 m_2), .v (.int .i64 m_3), .rd ⟨false, 3, (.int .i64), m_4⟩, .rd ⟨false, 3, (.int .i64), m_5⟩]] [] K =
    (fun (g59_3 : GT_tutorref05_start_3 R) (g59_7 : GT_tutorref05_start_7 R) (K0 : (List (List Bool)) → Option R) (m m_1 m_2 m_3 : Int) (m_4 m_5 : List Int) =>
    g59_3 0 m m_1 m_2 m_3 m_4 m_5 ([] : List (List Bool))) (gt_tutorref05_start_3 (runO Tryd.prog (T_tutorref05_start @l_tutorref05_now) cuts_tutorref05_start 0 (finish Tryd.prog Tryd.f59 0 K) fuel)) (gt_tutorref05_start_7 (runO Tryd.prog (T_tutorref05_start @l_tutorref05_now) cuts_tutorref05_start 0 (finish Tryd.prog Tryd.f59 0 K) fuel)) (fun r0 => K (.nst 0) [.nst ⟨true, 115, (.sl 4 .bool), r0⟩]) m m_1 m_2 m_3 m_4 m_5 := by kernel_rfl

theorem runs_tutorref05_start {R : Type} (K : AV → List O → Option R) : ∀ fuel : Nat,
    (gt_tutorref05_start_3 (runO Tryd.prog (T_tutorref05_start @l_tutorref05_now) cuts_tutorref05_start 0 (finish Tryd.prog Tryd.f59 0 K) fuel)) = (run_tutorref05_start (fun r0 => K (.nst 0) [.nst ⟨true, 115, (.sl 4 .bool), r0⟩]) fuel).1 ∧
    (gt_tutorref05_start_7 (runO Tryd.prog (T_tutorref05_start @l_tutorref05_now) cuts_tutorref05_start 0 (finish Tryd.prog Tryd.f59 0 K) fuel)) = (run_tutorref05_start (fun r0 => K (.nst 0) [.nst ⟨true, 115, (.sl 4 .bool), r0⟩]) fuel).2
  | 0 => ⟨rfl, rfl⟩
  | fuel + 1 => by
    have ih := runs_tutorref05_start K fuel
    refine ⟨?_, ?_⟩
    · funext s o0 o0_1 o0_2 o0_3 o0_4 o0_5 o1
      refine (gstep_tutorref05_start_3 @l_tutorref05_now _ K s o0 o0_1 o0_2 o0_3 o0_4 o0_5 o1).trans ?_
      rw [ih.1, ih.2]
      rfl
    · funext s t o0 o0_1 o0_2 o0_3 o0_4 o0_5 o1 o2
      refine (gstep_tutorref05_start_7 @l_tutorref05_now _ K s t o0 o0_1 o0_2 o0_3 o0_4 o0_5 o1 o2).trans ?_
      rw [ih.1, ih.2]
      rfl

def S_tutorref05_start (l_tutorref05_start : LT_tutorref05_start) : Sum := ⟨[], fun {R} args ob K => match args, ob with
  | [.agg [.v (.int .i64 m), .v (.int .i64 m_1), .v (.int .i64 m_2), .v (.int .i64 m_3), .rd ⟨false, 3, (.int .i64), m_4⟩, .rd ⟨false, 3, (.int .i64), m_5⟩]], [] => l_tutorref05_start m m_1 m_2 m_3 m_4 m_5 (fun r0 => K (.nst 0) [.nst ⟨true, 115, (.sl 4 .bool), r0⟩])
  | _, _ => none⟩

theorem sound_tutorref05_start : Sound Tryd.prog 59 (S_tutorref05_start @l_tutorref05_start) := by
  refine fn_sound (cuts := cuts_tutorref05_start) (fn := Tryd.f59) (Γ := (T_tutorref05_start @l_tutorref05_now)) wide right_T_tutorref05_start Tryd.func59 fun {R} K r args ob h => ?_
  unfold S_tutorref05_start at h
  dsimp only at h
  split at h
  · obtain ⟨n, hn⟩ := ok_tutorref05_start _ _ _ _ _ _ _ h
    refine ⟨Nat.le_of_ble_eq_true (by kernel_rfl), n, (gentry_tutorref05_start @l_tutorref05_now n K _ _ _ _ _ _).trans ?_⟩
    rw [(runs_tutorref05_start K n).1, (runs_tutorref05_start K n).2]
    exact hn
  · cases h

theorem call_tutorref05_start : Callable Tryd.prog 59 := ⟨_, Tryd.func59, by kernel_rfl, by kernel_rfl⟩

def T_tutorref05_round (l_tutorref05_now : LT_tutorref05_now) : FuncId → Option Sum := (addS G0 72 (S_tutorref05_now @l_tutorref05_now))

theorem right_T_tutorref05_round : Right Tryd.prog (T_tutorref05_round @l_tutorref05_now) := (right_add right_G0 call_tutorref05_now sound_tutorref05_now)

abbrev cuts_tutorref05_round : Cuts := [(4, [1, 2, 3, 8, 9, 10]), (8, [1, 2, 3, 8, 9, 10, 11, 12]), (12, [1, 2, 3, 8, 9, 10, 11, 12, 13])]

abbrev sta_tutorref05_round_4 (apart : List (List Bool)) (first more : Bool) (s o0 o0_1 o0_2 o0_3 : Int) (o0_4 o0_5 : List Int) (o1 : List (List Bool)) : St := ⟨fr0 111 [(1, .rd ⟨false, 115, (.sl 4 .bool), apart⟩), (2, .v (.bool first)), (3, .ptr 0 0), (8, .nst 1), (9, .v (.bool more)), (10, .v (.int .i64 s))], [.box 24 [.v (.int .i64 o0), .v (.int .i64 o0_1), .v (.int .i64 o0_2), .v (.int .i64 o0_3), .rd ⟨false, 3, (.int .i64), o0_4⟩, .rd ⟨false, 3, (.int .i64), o0_5⟩], .nst ⟨true, 115, (.sl 4 .bool), o1⟩]⟩

abbrev gt_tutorref05_round_4 {R : Type} (g : List Item → St → Option R) : GT_tutorref05_round_4 R := fun (apart : List (List Bool)) (first more : Bool) (s o0 o0_1 o0_2 o0_3 : Int) (o0_4 o0_5 : List Int) (o1 : List (List Bool)) => g (at' Tryd.f60 4) (sta_tutorref05_round_4 apart first more s o0 o0_1 o0_2 o0_3 o0_4 o0_5 o1)

abbrev sta_tutorref05_round_8 (apart : List (List Bool)) (first more : Bool) (s t o0 o0_1 o0_2 o0_3 : Int) (o0_4 o0_5 : List Int) (o1 : List (List Bool)) (o2 : List Bool) : St := ⟨fr0 111 [(1, .rd ⟨false, 115, (.sl 4 .bool), apart⟩), (2, .v (.bool first)), (3, .ptr 0 0), (8, .nst 1), (9, .v (.bool more)), (10, .v (.int .i64 s)), (11, .own 2), (12, .v (.int .i64 t))], [.box 24 [.v (.int .i64 o0), .v (.int .i64 o0_1), .v (.int .i64 o0_2), .v (.int .i64 o0_3), .rd ⟨false, 3, (.int .i64), o0_4⟩, .rd ⟨false, 3, (.int .i64), o0_5⟩], .nst ⟨true, 115, (.sl 4 .bool), o1⟩, .row ⟨true, 4, .bool, o2⟩]⟩

abbrev gt_tutorref05_round_8 {R : Type} (g : List Item → St → Option R) : GT_tutorref05_round_8 R := fun (apart : List (List Bool)) (first more : Bool) (s t o0 o0_1 o0_2 o0_3 : Int) (o0_4 o0_5 : List Int) (o1 : List (List Bool)) (o2 : List Bool) => g (at' Tryd.f60 8) (sta_tutorref05_round_8 apart first more s t o0 o0_1 o0_2 o0_3 o0_4 o0_5 o1 o2)

abbrev sta_tutorref05_round_12 (apart : List (List Bool)) (first more : Bool) (s t x o0 o0_1 o0_2 o0_3 : Int) (o0_4 o0_5 : List Int) (o1 : List (List Bool)) (o2 : List Bool) : St := ⟨fr0 111 [(1, .rd ⟨false, 115, (.sl 4 .bool), apart⟩), (2, .v (.bool first)), (3, .ptr 0 0), (8, .nst 1), (9, .v (.bool more)), (10, .v (.int .i64 s)), (11, .own 2), (12, .v (.int .i64 t)), (13, .v (.int .i64 x))], [.box 24 [.v (.int .i64 o0), .v (.int .i64 o0_1), .v (.int .i64 o0_2), .v (.int .i64 o0_3), .rd ⟨false, 3, (.int .i64), o0_4⟩, .rd ⟨false, 3, (.int .i64), o0_5⟩], .nst ⟨true, 115, (.sl 4 .bool), o1⟩, .row ⟨true, 4, .bool, o2⟩]⟩

abbrev gt_tutorref05_round_12 {R : Type} (g : List Item → St → Option R) : GT_tutorref05_round_12 R := fun (apart : List (List Bool)) (first more : Bool) (s t x o0 o0_1 o0_2 o0_3 : Int) (o0_4 o0_5 : List Int) (o1 : List (List Bool)) (o2 : List Bool) => g (at' Tryd.f60 12) (sta_tutorref05_round_12 apart first more s t x o0 o0_1 o0_2 o0_3 o0_4 o0_5 o1 o2)

theorem gstep_tutorref05_round_4 (l_tutorref05_now : LT_tutorref05_now) {R : Type} (g : List Item → St → Option R) (K : AV → List O → Option R) (apart : List (List Bool)) (first more : Bool) (s o0 o0_1 o0_2 o0_3 : Int) (o0_4 o0_5 : List Int) (o1 : List (List Bool)) :
    runSeg Tryd.prog (T_tutorref05_round @l_tutorref05_now) cuts_tutorref05_round 0 g (finish Tryd.prog Tryd.f60 0 K) (at' Tryd.f60 4) (sta_tutorref05_round_4 apart first more s o0 o0_1 o0_2 o0_3 o0_4 o0_5 o1) =
    (fun (g60_4 : GT_tutorref05_round_4 R) (g60_8 : GT_tutorref05_round_8 R) (g60_12 : GT_tutorref05_round_12 R) (K0 : Bool → (List (List Bool)) → Option R) (apart : List (List Bool)) (first more : Bool) (s o0 o0_1 o0_2 o0_3 : Int) (o0_4 o0_5 : List Int) (o1 : List (List Bool)) =>
    bi (decide (s < o0_3))
     (bi (decide (0 ≤ o0_3 ∧ o0_3 ≤ o0_3 ∧ o0_3 ≤ 1073741824))
      (g60_8 apart first more s 0 o0 o0_1 o0_2 o0_3 o0_4 o0_5 o1 (List.replicate o0_3.toNat (false : Bool)))
      none)
     (K0 more o1)) (gt_tutorref05_round_4 g) (gt_tutorref05_round_8 g) (gt_tutorref05_round_12 g) (fun r0 r1 => K (.tup [.nst 0, .v (.bool r0)]) [.nst ⟨true, 115, (.sl 4 .bool), r1⟩]) apart first more s o0 o0_1 o0_2 o0_3 o0_4 o0_5 o1 := by kernel_rfl

theorem gstep_tutorref05_round_8 (l_tutorref05_now : LT_tutorref05_now) {R : Type} (g : List Item → St → Option R) (K : AV → List O → Option R) (apart : List (List Bool)) (first more : Bool) (s t o0 o0_1 o0_2 o0_3 : Int) (o0_4 o0_5 : List Int) (o1 : List (List Bool)) (o2 : List Bool) :
    runSeg Tryd.prog (T_tutorref05_round @l_tutorref05_now) cuts_tutorref05_round 0 g (finish Tryd.prog Tryd.f60 0 K) (at' Tryd.f60 8) (sta_tutorref05_round_8 apart first more s t o0 o0_1 o0_2 o0_3 o0_4 o0_5 o1 o2) =
    (fun (g60_4 : GT_tutorref05_round_4 R) (g60_8 : GT_tutorref05_round_8 R) (g60_12 : GT_tutorref05_round_12 R) (K0 : Bool → (List (List Bool)) → Option R) (apart : List (List Bool)) (first more : Bool) (s t o0 o0_1 o0_2 o0_3 : Int) (o0_4 o0_5 : List Int) (o1 : List (List Bool)) (o2 : List Bool) =>
    bi (decide (t < o0_3))
     (bi (decide (0 ≤ s ∧ s < ((apart.length : Nat) : Int)))
      (bi (decide (0 ≤ t ∧ t < (((apart.getD s.toNat []).length : Nat) : Int)))
       (bi ((apart.getD s.toNat []).getD t.toNat false)
        (bi (decide (0 ≤ t ∧ t < ((o2.length : Nat) : Int)))
         (g60_12 apart first more s t 0 o0 o0_1 o0_2 o0_3 o0_4 o0_5 o1 (o2.set t.toNat true))
         none)
        (bi first
         (l_tutorref05_now o0 o0_1 o0_2 o0_3 o0_4 o0_5 s t
          (fun r1 =>
           bi (decide (0 ≤ t ∧ t < ((o2.length : Nat) : Int)))
            (g60_12 apart first more s t 0 o0 o0_1 o0_2 o0_3 o0_4 o0_5 o1 (o2.set t.toNat (!r1)))
            none))
         (bi (decide (0 ≤ t ∧ t < ((o2.length : Nat) : Int)))
          (g60_12 apart first more s t 0 o0 o0_1 o0_2 o0_3 o0_4 o0_5 o1 (o2.set t.toNat false))
          none)))
       none)
      none)
     (bi (decide ((o1.length + [o2].length) * 24 ≤ lim))
      (g60_4 apart first more (IntKind.i64.wrap (s + 1)) o0 o0_1 o0_2 o0_3 o0_4 o0_5 (o1 ++ [o2]))
      none)) (gt_tutorref05_round_4 g) (gt_tutorref05_round_8 g) (gt_tutorref05_round_12 g) (fun r0 r1 => K (.tup [.nst 0, .v (.bool r0)]) [.nst ⟨true, 115, (.sl 4 .bool), r1⟩]) apart first more s t o0 o0_1 o0_2 o0_3 o0_4 o0_5 o1 o2 := by kernel_rfl

theorem gstep_tutorref05_round_12 (l_tutorref05_now : LT_tutorref05_now) {R : Type} (g : List Item → St → Option R) (K : AV → List O → Option R) (apart : List (List Bool)) (first more : Bool) (s t x o0 o0_1 o0_2 o0_3 : Int) (o0_4 o0_5 : List Int) (o1 : List (List Bool)) (o2 : List Bool) :
    runSeg Tryd.prog (T_tutorref05_round @l_tutorref05_now) cuts_tutorref05_round 0 g (finish Tryd.prog Tryd.f60 0 K) (at' Tryd.f60 12) (sta_tutorref05_round_12 apart first more s t x o0 o0_1 o0_2 o0_3 o0_4 o0_5 o1 o2) =
    (fun (g60_4 : GT_tutorref05_round_4 R) (g60_8 : GT_tutorref05_round_8 R) (g60_12 : GT_tutorref05_round_12 R) (K0 : Bool → (List (List Bool)) → Option R) (apart : List (List Bool)) (first more : Bool) (s t x o0 o0_1 o0_2 o0_3 : Int) (o0_4 o0_5 : List Int) (o1 : List (List Bool)) (o2 : List Bool) =>
    bi (decide (x < o0_1))
     (bi (decide (0 ≤ t ∧ t < ((o2.length : Nat) : Int)))
      (bi (!(o2.getD t.toNat false))
       (bi (decide (0 ≤ (IntKind.i64.wrap ((IntKind.i64.wrap (s * o0_1)) + x)) ∧ (IntKind.i64.wrap ((IntKind.i64.wrap (s * o0_1)) + x)) < ((o0_4.length : Nat) : Int)))
        (bi (decide (0 ≤ (o0_4.getD ((IntKind.i64.wrap ((IntKind.i64.wrap (s * o0_1)) + x)).toNat) 0) ∧ (o0_4.getD ((IntKind.i64.wrap ((IntKind.i64.wrap (s * o0_1)) + x)).toNat) 0) < ((apart.length : Nat) : Int)))
         (bi (decide (0 ≤ (IntKind.i64.wrap ((IntKind.i64.wrap (t * o0_1)) + x)) ∧ (IntKind.i64.wrap ((IntKind.i64.wrap (t * o0_1)) + x)) < ((o0_4.length : Nat) : Int)))
          (bi (decide (0 ≤ (o0_4.getD ((IntKind.i64.wrap ((IntKind.i64.wrap (t * o0_1)) + x)).toNat) 0) ∧ (o0_4.getD ((IntKind.i64.wrap ((IntKind.i64.wrap (t * o0_1)) + x)).toNat) 0) < (((apart.getD ((o0_4.getD ((IntKind.i64.wrap ((IntKind.i64.wrap (s * o0_1)) + x)).toNat) 0).toNat) []).length : Nat) : Int)))
           (bi (decide (0 ≤ t ∧ t < ((o2.length : Nat) : Int)))
            (g60_12 apart first more s t (IntKind.i64.wrap (x + 1)) o0 o0_1 o0_2 o0_3 o0_4 o0_5 o1 (o2.set t.toNat ((apart.getD ((o0_4.getD ((IntKind.i64.wrap ((IntKind.i64.wrap (s * o0_1)) + x)).toNat) 0).toNat) []).getD ((o0_4.getD ((IntKind.i64.wrap ((IntKind.i64.wrap (t * o0_1)) + x)).toNat) 0).toNat) false)))
            none)
           none)
          none)
         none)
        none)
       (bi more
        (g60_8 apart first true s (IntKind.i64.wrap (t + 1)) o0 o0_1 o0_2 o0_3 o0_4 o0_5 o1 o2)
        (bi (decide (0 ≤ t ∧ t < ((o2.length : Nat) : Int)))
         (bi (decide (0 ≤ s ∧ s < ((apart.length : Nat) : Int)))
          (bi (decide (0 ≤ t ∧ t < (((apart.getD s.toNat []).length : Nat) : Int)))
           (g60_8 apart first (!((o2.getD t.toNat false) == ((apart.getD s.toNat []).getD t.toNat false))) s (IntKind.i64.wrap (t + 1)) o0 o0_1 o0_2 o0_3 o0_4 o0_5 o1 o2)
           none)
          none)
         none)))
      none)
     (bi more
      (g60_8 apart first true s (IntKind.i64.wrap (t + 1)) o0 o0_1 o0_2 o0_3 o0_4 o0_5 o1 o2)
      (bi (decide (0 ≤ t ∧ t < ((o2.length : Nat) : Int)))
       (bi (decide (0 ≤ s ∧ s < ((apart.length : Nat) : Int)))
        (bi (decide (0 ≤ t ∧ t < (((apart.getD s.toNat []).length : Nat) : Int)))
         (g60_8 apart first (!((o2.getD t.toNat false) == ((apart.getD s.toNat []).getD t.toNat false))) s (IntKind.i64.wrap (t + 1)) o0 o0_1 o0_2 o0_3 o0_4 o0_5 o1 o2)
         none)
        none)
       none))) (gt_tutorref05_round_4 g) (gt_tutorref05_round_8 g) (gt_tutorref05_round_12 g) (fun r0 r1 => K (.tup [.nst 0, .v (.bool r0)]) [.nst ⟨true, 115, (.sl 4 .bool), r1⟩]) apart first more s t x o0 o0_1 o0_2 o0_3 o0_4 o0_5 o1 o2 := by kernel_rfl

theorem gentry_tutorref05_round (l_tutorref05_now : LT_tutorref05_now) {R : Type} (fuel : Nat) (K : AV → List O → Option R) (m m_1 m_2 m_3 : Int) (m_4 m_5 : List Int) (apart : List (List Bool)) (first : Bool) :
    fnRun Tryd.prog (T_tutorref05_round @l_tutorref05_now) cuts_tutorref05_round Tryd.f60 fuel [.agg [.v (.int .i64 m), .v (.int .i64 m_1), .v (.int .i64 m_2), .v (.int .i64 m_3), .rd ⟨false, 3, (.int .i64), m_4⟩, .rd ⟨false, 3, (.int .i64), m_5⟩], .rd ⟨false, 115, (.sl 4 .bool), apart⟩, .v (.bool first)] [] K =
    (fun (g60_4 : GT_tutorref05_round_4 R) (g60_8 : GT_tutorref05_round_8 R) (g60_12 : GT_tutorref05_round_12 R) (K0 : Bool → (List (List Bool)) → Option R) (m m_1 m_2 m_3 : Int) (m_4 m_5 : List Int) (apart : List (List Bool)) (first : Bool) =>
    g60_4 apart first false 0 m m_1 m_2 m_3 m_4 m_5 ([] : List (List Bool))) (gt_tutorref05_round_4 (runO Tryd.prog (T_tutorref05_round @l_tutorref05_now) cuts_tutorref05_round 0 (finish Tryd.prog Tryd.f60 0 K) fuel)) (gt_tutorref05_round_8 (runO Tryd.prog (T_tutorref05_round @l_tutorref05_now) cuts_tutorref05_round 0 (finish Tryd.prog Tryd.f60 0 K) fuel)) (gt_tutorref05_round_12 (runO Tryd.prog (T_tutorref05_round @l_tutorref05_now) cuts_tutorref05_round 0 (finish Tryd.prog Tryd.f60 0 K) fuel)) (fun r0 r1 => K (.tup [.nst 0, .v (.bool r0)]) [.nst ⟨true, 115, (.sl 4 .bool), r1⟩]) m m_1 m_2 m_3 m_4 m_5 apart first := by kernel_rfl

theorem runs_tutorref05_round {R : Type} (K : AV → List O → Option R) : ∀ fuel : Nat,
    (gt_tutorref05_round_4 (runO Tryd.prog (T_tutorref05_round @l_tutorref05_now) cuts_tutorref05_round 0 (finish Tryd.prog Tryd.f60 0 K) fuel)) = (run_tutorref05_round (fun r0 r1 => K (.tup [.nst 0, .v (.bool r0)]) [.nst ⟨true, 115, (.sl 4 .bool), r1⟩]) fuel).1 ∧
    (gt_tutorref05_round_8 (runO Tryd.prog (T_tutorref05_round @l_tutorref05_now) cuts_tutorref05_round 0 (finish Tryd.prog Tryd.f60 0 K) fuel)) = (run_tutorref05_round (fun r0 r1 => K (.tup [.nst 0, .v (.bool r0)]) [.nst ⟨true, 115, (.sl 4 .bool), r1⟩]) fuel).2.1 ∧
    (gt_tutorref05_round_12 (runO Tryd.prog (T_tutorref05_round @l_tutorref05_now) cuts_tutorref05_round 0 (finish Tryd.prog Tryd.f60 0 K) fuel)) = (run_tutorref05_round (fun r0 r1 => K (.tup [.nst 0, .v (.bool r0)]) [.nst ⟨true, 115, (.sl 4 .bool), r1⟩]) fuel).2.2
  | 0 => ⟨rfl, rfl, rfl⟩
  | fuel + 1 => by
    have ih := runs_tutorref05_round K fuel
    refine ⟨?_, ?_, ?_⟩
    · funext apart first more s o0 o0_1 o0_2 o0_3 o0_4 o0_5 o1
      refine (gstep_tutorref05_round_4 @l_tutorref05_now _ K apart first more s o0 o0_1 o0_2 o0_3 o0_4 o0_5 o1).trans ?_
      rw [ih.1, ih.2.1, ih.2.2]
      rfl
    · funext apart first more s t o0 o0_1 o0_2 o0_3 o0_4 o0_5 o1 o2
      refine (gstep_tutorref05_round_8 @l_tutorref05_now _ K apart first more s t o0 o0_1 o0_2 o0_3 o0_4 o0_5 o1 o2).trans ?_
      rw [ih.1, ih.2.1, ih.2.2]
      rfl
    · funext apart first more s t x o0 o0_1 o0_2 o0_3 o0_4 o0_5 o1 o2
      refine (gstep_tutorref05_round_12 @l_tutorref05_now _ K apart first more s t x o0 o0_1 o0_2 o0_3 o0_4 o0_5 o1 o2).trans ?_
      rw [ih.1, ih.2.1, ih.2.2]
      rfl

def S_tutorref05_round (l_tutorref05_round : LT_tutorref05_round) : Sum := ⟨[], fun {R} args ob K => match args, ob with
  | [.agg [.v (.int .i64 m), .v (.int .i64 m_1), .v (.int .i64 m_2), .v (.int .i64 m_3), .rd ⟨false, 3, (.int .i64), m_4⟩, .rd ⟨false, 3, (.int .i64), m_5⟩], .rd ⟨false, 115, (.sl 4 .bool), apart⟩, .v (.bool first)], [] => l_tutorref05_round m m_1 m_2 m_3 m_4 m_5 apart first (fun r0 r1 => K (.tup [.nst 0, .v (.bool r0)]) [.nst ⟨true, 115, (.sl 4 .bool), r1⟩])
  | _, _ => none⟩

theorem sound_tutorref05_round : Sound Tryd.prog 60 (S_tutorref05_round @l_tutorref05_round) := by
  refine fn_sound (cuts := cuts_tutorref05_round) (fn := Tryd.f60) (Γ := (T_tutorref05_round @l_tutorref05_now)) wide right_T_tutorref05_round Tryd.func60 fun {R} K r args ob h => ?_
  unfold S_tutorref05_round at h
  dsimp only at h
  split at h
  · obtain ⟨n, hn⟩ := ok_tutorref05_round _ _ _ _ _ _ _ _ _ h
    refine ⟨Nat.le_of_ble_eq_true (by kernel_rfl), n, (gentry_tutorref05_round @l_tutorref05_now n K _ _ _ _ _ _ _ _).trans ?_⟩
    rw [(runs_tutorref05_round K n).1, (runs_tutorref05_round K n).2.1, (runs_tutorref05_round K n).2.2]
    exact hn
  · cases h

theorem call_tutorref05_round : Callable Tryd.prog 60 := ⟨_, Tryd.func60, by kernel_rfl, by kernel_rfl⟩

def T_tutorref05_classes : FuncId → Option Sum := G0

theorem right_T_tutorref05_classes : Right Tryd.prog T_tutorref05_classes := right_G0

abbrev cuts_tutorref05_classes : Cuts := [(4, [0, 3, 4, 5]), (8, [0, 3, 4, 5, 6, 7])]

abbrev sta_tutorref05_classes_4 (apart : List (List Bool)) (n s : Int) (o0 : List Int) : St := ⟨fr0 45 [(0, .rd ⟨false, 115, (.sl 4 .bool), apart⟩), (3, .own 0), (4, .v (.int .i64 n)), (5, .v (.int .i64 s))], [.row ⟨true, 3, (.int .i64), o0⟩]⟩

abbrev gt_tutorref05_classes_4 {R : Type} (g : List Item → St → Option R) : GT_tutorref05_classes_4 R := fun (apart : List (List Bool)) (n s : Int) (o0 : List Int) => g (at' Tryd.f61 4) (sta_tutorref05_classes_4 apart n s o0)

abbrev sta_tutorref05_classes_8 (apart : List (List Bool)) (n s c t : Int) (o0 : List Int) : St := ⟨fr0 45 [(0, .rd ⟨false, 115, (.sl 4 .bool), apart⟩), (3, .own 0), (4, .v (.int .i64 n)), (5, .v (.int .i64 s)), (6, .v (.int .i64 c)), (7, .v (.int .i64 t))], [.row ⟨true, 3, (.int .i64), o0⟩]⟩

abbrev gt_tutorref05_classes_8 {R : Type} (g : List Item → St → Option R) : GT_tutorref05_classes_8 R := fun (apart : List (List Bool)) (n s c t : Int) (o0 : List Int) => g (at' Tryd.f61 8) (sta_tutorref05_classes_8 apart n s c t o0)

theorem gstep_tutorref05_classes_4 {R : Type} (g : List Item → St → Option R) (K : AV → List O → Option R) (apart : List (List Bool)) (n s : Int) (o0 : List Int) :
    runSeg Tryd.prog T_tutorref05_classes cuts_tutorref05_classes 0 g (finish Tryd.prog Tryd.f61 0 K) (at' Tryd.f61 4) (sta_tutorref05_classes_4 apart n s o0) =
    (fun (g61_4 : GT_tutorref05_classes_4 R) (g61_8 : GT_tutorref05_classes_8 R) (K0 : (List Int) → Option R) (apart : List (List Bool)) (n s : Int) (o0 : List Int) =>
    bi (decide (s < (apart.length : Int)))
     (g61_8 apart n s (-1) 0 o0)
     (K0 o0)) (gt_tutorref05_classes_4 g) (gt_tutorref05_classes_8 g) (fun r0 => K (.own 0) [.row ⟨true, 3, (.int .i64), r0⟩]) apart n s o0 := by kernel_rfl

theorem gstep_tutorref05_classes_8 {R : Type} (g : List Item → St → Option R) (K : AV → List O → Option R) (apart : List (List Bool)) (n s c t : Int) (o0 : List Int) :
    runSeg Tryd.prog T_tutorref05_classes cuts_tutorref05_classes 0 g (finish Tryd.prog Tryd.f61 0 K) (at' Tryd.f61 8) (sta_tutorref05_classes_8 apart n s c t o0) =
    (fun (g61_4 : GT_tutorref05_classes_4 R) (g61_8 : GT_tutorref05_classes_8 R) (K0 : (List Int) → Option R) (apart : List (List Bool)) (n s c t : Int) (o0 : List Int) =>
    bi (decide (t < s))
     (bi (decide (c < 0))
      (bi (decide (0 ≤ s ∧ s < ((apart.length : Nat) : Int)))
       (bi (decide (0 ≤ t ∧ t < (((apart.getD s.toNat []).length : Nat) : Int)))
        (bi (!((apart.getD s.toNat []).getD t.toNat false))
         (bi (decide (0 ≤ t ∧ t < ((o0.length : Nat) : Int)))
          (g61_8 apart n s (o0.getD t.toNat 0) (IntKind.i64.wrap (t + 1)) o0)
          none)
         (g61_8 apart n s c (IntKind.i64.wrap (t + 1)) o0))
        none)
       none)
      (bi (decide (c < 0))
       (bi (decide ((o0.length + [n].length) * 8 ≤ lim))
        (g61_4 apart (IntKind.i64.wrap (n + 1)) (IntKind.i64.wrap (s + 1)) (o0 ++ [n]))
        none)
       (bi (decide ((o0.length + [c].length) * 8 ≤ lim))
        (g61_4 apart n (IntKind.i64.wrap (s + 1)) (o0 ++ [c]))
        none)))
     (bi (decide (c < 0))
      (bi (decide ((o0.length + [n].length) * 8 ≤ lim))
       (g61_4 apart (IntKind.i64.wrap (n + 1)) (IntKind.i64.wrap (s + 1)) (o0 ++ [n]))
       none)
      (bi (decide ((o0.length + [c].length) * 8 ≤ lim))
       (g61_4 apart n (IntKind.i64.wrap (s + 1)) (o0 ++ [c]))
       none))) (gt_tutorref05_classes_4 g) (gt_tutorref05_classes_8 g) (fun r0 => K (.own 0) [.row ⟨true, 3, (.int .i64), r0⟩]) apart n s c t o0 := by kernel_rfl

theorem gentry_tutorref05_classes {R : Type} (fuel : Nat) (K : AV → List O → Option R) (apart : List (List Bool)) :
    fnRun Tryd.prog T_tutorref05_classes cuts_tutorref05_classes Tryd.f61 fuel [.rd ⟨false, 115, (.sl 4 .bool), apart⟩] [] K =
    (fun (g61_4 : GT_tutorref05_classes_4 R) (g61_8 : GT_tutorref05_classes_8 R) (K0 : (List Int) → Option R) (apart : List (List Bool)) =>
    g61_4 apart 0 0 ([] : List Int)) (gt_tutorref05_classes_4 (runO Tryd.prog T_tutorref05_classes cuts_tutorref05_classes 0 (finish Tryd.prog Tryd.f61 0 K) fuel)) (gt_tutorref05_classes_8 (runO Tryd.prog T_tutorref05_classes cuts_tutorref05_classes 0 (finish Tryd.prog Tryd.f61 0 K) fuel)) (fun r0 => K (.own 0) [.row ⟨true, 3, (.int .i64), r0⟩]) apart := by kernel_rfl

theorem runs_tutorref05_classes {R : Type} (K : AV → List O → Option R) : ∀ fuel : Nat,
    (gt_tutorref05_classes_4 (runO Tryd.prog T_tutorref05_classes cuts_tutorref05_classes 0 (finish Tryd.prog Tryd.f61 0 K) fuel)) = (run_tutorref05_classes (fun r0 => K (.own 0) [.row ⟨true, 3, (.int .i64), r0⟩]) fuel).1 ∧
    (gt_tutorref05_classes_8 (runO Tryd.prog T_tutorref05_classes cuts_tutorref05_classes 0 (finish Tryd.prog Tryd.f61 0 K) fuel)) = (run_tutorref05_classes (fun r0 => K (.own 0) [.row ⟨true, 3, (.int .i64), r0⟩]) fuel).2
  | 0 => ⟨rfl, rfl⟩
  | fuel + 1 => by
    have ih := runs_tutorref05_classes K fuel
    refine ⟨?_, ?_⟩
    · funext apart n s o0
      refine (gstep_tutorref05_classes_4 _ K apart n s o0).trans ?_
      rw [ih.1, ih.2]
      rfl
    · funext apart n s c t o0
      refine (gstep_tutorref05_classes_8 _ K apart n s c t o0).trans ?_
      rw [ih.1, ih.2]
      rfl

def S_tutorref05_classes (l_tutorref05_classes : LT_tutorref05_classes) : Sum := ⟨[], fun {R} args ob K => match args, ob with
  | [.rd ⟨false, 115, (.sl 4 .bool), apart⟩], [] => l_tutorref05_classes apart (fun r0 => K (.own 0) [.row ⟨true, 3, (.int .i64), r0⟩])
  | _, _ => none⟩

theorem sound_tutorref05_classes : Sound Tryd.prog 61 (S_tutorref05_classes @l_tutorref05_classes) := by
  refine fn_sound (cuts := cuts_tutorref05_classes) (fn := Tryd.f61) (Γ := T_tutorref05_classes) wide right_T_tutorref05_classes Tryd.func61 fun {R} K r args ob h => ?_
  unfold S_tutorref05_classes at h
  dsimp only at h
  split at h
  · obtain ⟨n, hn⟩ := ok_tutorref05_classes _ _ h
    refine ⟨Nat.le_of_ble_eq_true (by kernel_rfl), n, (gentry_tutorref05_classes n K _).trans ?_⟩
    rw [(runs_tutorref05_classes K n).1, (runs_tutorref05_classes K n).2]
    exact hn
  · cases h

theorem call_tutorref05_classes : Callable Tryd.prog 61 := ⟨_, Tryd.func61, by kernel_rfl, by kernel_rfl⟩

def T_tutorref05_Classes (l_tutorref05_start : LT_tutorref05_start) (l_tutorref03_Check : LT_tutorref03_Check) (l_tutorref05_classes : LT_tutorref05_classes) (l_tutorref05_round : LT_tutorref05_round) : FuncId → Option Sum := (addS (addS (addS (addS G0 59 (S_tutorref05_start @l_tutorref05_start)) 36 (S_tutorref03_Check @l_tutorref03_Check)) 61 (S_tutorref05_classes @l_tutorref05_classes)) 60 (S_tutorref05_round @l_tutorref05_round))

theorem right_T_tutorref05_Classes : Right Tryd.prog (T_tutorref05_Classes @l_tutorref05_start @l_tutorref03_Check @l_tutorref05_classes @l_tutorref05_round) := (right_add (right_add (right_add (right_add right_G0 call_tutorref05_start sound_tutorref05_start) call_tutorref03_Check sound_tutorref03_Check) call_tutorref05_classes sound_tutorref05_classes) call_tutorref05_round sound_tutorref05_round)

abbrev cuts_tutorref05_Classes : Cuts := [(6, [1, 7, 8])]

abbrev sta_tutorref05_Classes_6 (n o0 o0_1 o0_2 o0_3 : Int) (o0_4 o0_5 : List Int) (o1 : List (List Bool)) : St := ⟨fr0 38 [(1, .ptr 0 0), (7, .nst 1), (8, .v (.int .i64 n))], [.box 24 [.v (.int .i64 o0), .v (.int .i64 o0_1), .v (.int .i64 o0_2), .v (.int .i64 o0_3), .rd ⟨false, 3, (.int .i64), o0_4⟩, .rd ⟨false, 3, (.int .i64), o0_5⟩], .nst ⟨true, 115, (.sl 4 .bool), o1⟩]⟩

abbrev gt_tutorref05_Classes_6 {R : Type} (g : List Item → St → Option R) : GT_tutorref05_Classes_6 R := fun (n o0 o0_1 o0_2 o0_3 : Int) (o0_4 o0_5 : List Int) (o1 : List (List Bool)) => g (at' Tryd.f43 6) (sta_tutorref05_Classes_6 n o0 o0_1 o0_2 o0_3 o0_4 o0_5 o1)

theorem gstep_tutorref05_Classes_6 (l_tutorref05_start : LT_tutorref05_start) (l_tutorref03_Check : LT_tutorref03_Check) (l_tutorref05_classes : LT_tutorref05_classes) (l_tutorref05_round : LT_tutorref05_round) {R : Type} (g : List Item → St → Option R) (K : AV → List O → Option R) (n o0 o0_1 o0_2 o0_3 : Int) (o0_4 o0_5 : List Int) (o1 : List (List Bool)) :
    runSeg Tryd.prog (T_tutorref05_Classes @l_tutorref05_start @l_tutorref03_Check @l_tutorref05_classes @l_tutorref05_round) cuts_tutorref05_Classes 0 g (finish Tryd.prog Tryd.f43 0 K) (at' Tryd.f43 6) (sta_tutorref05_Classes_6 n o0 o0_1 o0_2 o0_3 o0_4 o0_5 o1) =
    (fun (g43_6 : GT_tutorref05_Classes_6 R) (K0 : Int → Int → (List Int) → Option R) (n o0 o0_1 o0_2 o0_3 : Int) (o0_4 o0_5 : List Int) (o1 : List (List Bool)) =>
    l_tutorref05_round o0 o0_1 o0_2 o0_3 o0_4 o0_5 o1 (o0 == 2)
     (fun r4 r5 =>
      bi (!r4)
       (l_tutorref05_classes o1
        (fun r6 =>
         K0 n 0 r6))
       (g43_6 (IntKind.i64.wrap (n + 1)) o0 o0_1 o0_2 o0_3 o0_4 o0_5 r5))) (gt_tutorref05_Classes_6 g) (fun r0 r1 r2 => K (.tup [.own 0, .v (.int .i64 r0), .v (.int .i64 r1)]) [.row ⟨true, 3, (.int .i64), r2⟩]) n o0 o0_1 o0_2 o0_3 o0_4 o0_5 o1 := by kernel_rfl

theorem gentry_tutorref05_Classes (l_tutorref05_start : LT_tutorref05_start) (l_tutorref03_Check : LT_tutorref03_Check) (l_tutorref05_classes : LT_tutorref05_classes) (l_tutorref05_round : LT_tutorref05_round) {R : Type} (fuel : Nat) (K : AV → List O → Option R) (m m_1 m_2 m_3 : Int) (m_4 m_5 : List Int) :
    fnRun Tryd.prog (T_tutorref05_Classes @l_tutorref05_start @l_tutorref03_Check @l_tutorref05_classes @l_tutorref05_round) cuts_tutorref05_Classes Tryd.f43 fuel [.agg [.v (.int .i64 m), .v (.int .i64 m_1), .v (.int .i64 m_2), .v (.int .i64 m_3), .rd ⟨false, 3, (.int .i64), m_4⟩, .rd ⟨false, 3, (.int .i64), m_5⟩]] [] K =
    (fun (g43_6 : GT_tutorref05_Classes_6 R) (K0 : Int → Int → (List Int) → Option R) (m m_1 m_2 m_3 : Int) (m_4 m_5 : List Int) =>
    l_tutorref03_Check m m_1 m_2 m_3 m_4 m_5
     (fun r1 r2 =>
      bi (r2 != 0)
       (K0 0 r2 ([] : List Int))
       (l_tutorref05_start m m_1 m_2 m_3 m_4 m_5
        (fun r3 =>
         g43_6 0 m m_1 m_2 m_3 m_4 m_5 r3)))) (gt_tutorref05_Classes_6 (runO Tryd.prog (T_tutorref05_Classes @l_tutorref05_start @l_tutorref03_Check @l_tutorref05_classes @l_tutorref05_round) cuts_tutorref05_Classes 0 (finish Tryd.prog Tryd.f43 0 K) fuel)) (fun r0 r1 r2 => K (.tup [.own 0, .v (.int .i64 r0), .v (.int .i64 r1)]) [.row ⟨true, 3, (.int .i64), r2⟩]) m m_1 m_2 m_3 m_4 m_5 := by kernel_rfl

theorem runs_tutorref05_Classes {R : Type} (K : AV → List O → Option R) : ∀ fuel : Nat,
    (gt_tutorref05_Classes_6 (runO Tryd.prog (T_tutorref05_Classes @l_tutorref05_start @l_tutorref03_Check @l_tutorref05_classes @l_tutorref05_round) cuts_tutorref05_Classes 0 (finish Tryd.prog Tryd.f43 0 K) fuel)) = (run_tutorref05_Classes (fun r0 r1 r2 => K (.tup [.own 0, .v (.int .i64 r0), .v (.int .i64 r1)]) [.row ⟨true, 3, (.int .i64), r2⟩]) fuel)
  | 0 => rfl
  | fuel + 1 => by
    have ih := runs_tutorref05_Classes K fuel
    funext n o0 o0_1 o0_2 o0_3 o0_4 o0_5 o1
    refine (gstep_tutorref05_Classes_6 @l_tutorref05_start @l_tutorref03_Check @l_tutorref05_classes @l_tutorref05_round _ K n o0 o0_1 o0_2 o0_3 o0_4 o0_5 o1).trans ?_
    rw [ih]
    rfl

def S_tutorref05_Classes (l_tutorref05_Classes : LT_tutorref05_Classes) : Sum := ⟨[], fun {R} args ob K => match args, ob with
  | [.agg [.v (.int .i64 m), .v (.int .i64 m_1), .v (.int .i64 m_2), .v (.int .i64 m_3), .rd ⟨false, 3, (.int .i64), m_4⟩, .rd ⟨false, 3, (.int .i64), m_5⟩]], [] => l_tutorref05_Classes m m_1 m_2 m_3 m_4 m_5 (fun r0 r1 r2 => K (.tup [.own 0, .v (.int .i64 r0), .v (.int .i64 r1)]) [.row ⟨true, 3, (.int .i64), r2⟩])
  | _, _ => none⟩

theorem sound_tutorref05_Classes : Sound Tryd.prog 43 (S_tutorref05_Classes @l_tutorref05_Classes) := by
  refine fn_sound (cuts := cuts_tutorref05_Classes) (fn := Tryd.f43) (Γ := (T_tutorref05_Classes @l_tutorref05_start @l_tutorref03_Check @l_tutorref05_classes @l_tutorref05_round)) wide right_T_tutorref05_Classes Tryd.func43 fun {R} K r args ob h => ?_
  unfold S_tutorref05_Classes at h
  dsimp only at h
  split at h
  · obtain ⟨n, hn⟩ := ok_tutorref05_Classes _ _ _ _ _ _ _ h
    refine ⟨Nat.le_of_ble_eq_true (by kernel_rfl), n, (gentry_tutorref05_Classes @l_tutorref05_start @l_tutorref03_Check @l_tutorref05_classes @l_tutorref05_round n K _ _ _ _ _ _).trans ?_⟩
    rw [(runs_tutorref05_Classes K n)]
    exact hn
  · cases h

theorem call_tutorref05_Classes : Callable Tryd.prog 43 := ⟨_, Tryd.func43, by kernel_rfl, by kernel_rfl⟩

def T_tutorref04_Reach (l_tutorref03_Check : LT_tutorref03_Check) (l_tutorref01_Join : LT_tutorref01_Join) : FuncId → Option Sum := (addS (addS G0 36 (S_tutorref03_Check @l_tutorref03_Check)) 58 (S_tutorref01_Join @l_tutorref01_Join))

theorem right_T_tutorref04_Reach : Right Tryd.prog (T_tutorref04_Reach @l_tutorref03_Check @l_tutorref01_Join) := (right_add (right_add right_G0 call_tutorref03_Check sound_tutorref03_Check) call_tutorref01_Join sound_tutorref01_Join)

abbrev cuts_tutorref04_Reach : Cuts := [(9, [1, 7, 8, 9, 10]), (12, [1, 7, 8, 9, 11, 12]), (15, [1, 7, 8, 9, 11, 12, 13])]

abbrev sta_tutorref04_Reach_9 (vfrom o0 o0_1 o0_2 o0_3 : Int) (o0_4 o0_5 : List Int) (o1 : List Bool) (o2 : List Int) (o3 : List (List Int)) : St := ⟨fr0 87 [(1, .ptr 0 0), (7, .own 1), (8, .own 2), (9, .nst 3), (10, .v (.int .i64 vfrom))], [.box 24 [.v (.int .i64 o0), .v (.int .i64 o0_1), .v (.int .i64 o0_2), .v (.int .i64 o0_3), .rd ⟨false, 3, (.int .i64), o0_4⟩, .rd ⟨false, 3, (.int .i64), o0_5⟩], .row ⟨true, 4, .bool, o1⟩, .row ⟨true, 3, (.int .i64), o2⟩, .nst ⟨true, 22, (.sl 3 (.int .i64)), o3⟩]⟩

abbrev gt_tutorref04_Reach_9 {R : Type} (g : List Item → St → Option R) : GT_tutorref04_Reach_9 R := fun (vfrom o0 o0_1 o0_2 o0_3 : Int) (o0_4 o0_5 : List Int) (o1 : List Bool) (o2 : List Int) (o3 : List (List Int)) => g (at' Tryd.f62 9) (sta_tutorref04_Reach_9 vfrom o0 o0_1 o0_2 o0_3 o0_4 o0_5 o1 o2 o3)

abbrev sta_tutorref04_Reach_12 (vuntil i o0 o0_1 o0_2 o0_3 : Int) (o0_4 o0_5 : List Int) (o1 : List Bool) (o2 : List Int) (o3 : List (List Int)) : St := ⟨fr0 87 [(1, .ptr 0 0), (7, .own 1), (8, .own 2), (9, .nst 3), (11, .v (.int .i64 vuntil)), (12, .v (.int .i64 i))], [.box 24 [.v (.int .i64 o0), .v (.int .i64 o0_1), .v (.int .i64 o0_2), .v (.int .i64 o0_3), .rd ⟨false, 3, (.int .i64), o0_4⟩, .rd ⟨false, 3, (.int .i64), o0_5⟩], .row ⟨true, 4, .bool, o1⟩, .row ⟨true, 3, (.int .i64), o2⟩, .nst ⟨true, 22, (.sl 3 (.int .i64)), o3⟩]⟩

abbrev gt_tutorref04_Reach_12 {R : Type} (g : List Item → St → Option R) : GT_tutorref04_Reach_12 R := fun (vuntil i o0 o0_1 o0_2 o0_3 : Int) (o0_4 o0_5 : List Int) (o1 : List Bool) (o2 : List Int) (o3 : List (List Int)) => g (at' Tryd.f62 12) (sta_tutorref04_Reach_12 vuntil i o0 o0_1 o0_2 o0_3 o0_4 o0_5 o1 o2 o3)

abbrev sta_tutorref04_Reach_15 (vuntil i x o0 o0_1 o0_2 o0_3 : Int) (o0_4 o0_5 : List Int) (o1 : List Bool) (o2 : List Int) (o3 : List (List Int)) : St := ⟨fr0 87 [(1, .ptr 0 0), (7, .own 1), (8, .own 2), (9, .nst 3), (11, .v (.int .i64 vuntil)), (12, .v (.int .i64 i)), (13, .v (.int .i64 x))], [.box 24 [.v (.int .i64 o0), .v (.int .i64 o0_1), .v (.int .i64 o0_2), .v (.int .i64 o0_3), .rd ⟨false, 3, (.int .i64), o0_4⟩, .rd ⟨false, 3, (.int .i64), o0_5⟩], .row ⟨true, 4, .bool, o1⟩, .row ⟨true, 3, (.int .i64), o2⟩, .nst ⟨true, 22, (.sl 3 (.int .i64)), o3⟩]⟩

abbrev gt_tutorref04_Reach_15 {R : Type} (g : List Item → St → Option R) : GT_tutorref04_Reach_15 R := fun (vuntil i x o0 o0_1 o0_2 o0_3 : Int) (o0_4 o0_5 : List Int) (o1 : List Bool) (o2 : List Int) (o3 : List (List Int)) => g (at' Tryd.f62 15) (sta_tutorref04_Reach_15 vuntil i x o0 o0_1 o0_2 o0_3 o0_4 o0_5 o1 o2 o3)

theorem gstep_tutorref04_Reach_9 (l_tutorref03_Check : LT_tutorref03_Check) (l_tutorref01_Join : LT_tutorref01_Join) {R : Type} (g : List Item → St → Option R) (K : AV → List O → Option R) (vfrom o0 o0_1 o0_2 o0_3 : Int) (o0_4 o0_5 : List Int) (o1 : List Bool) (o2 : List Int) (o3 : List (List Int)) :
    runSeg Tryd.prog (T_tutorref04_Reach @l_tutorref03_Check @l_tutorref01_Join) cuts_tutorref04_Reach 0 g (finish Tryd.prog Tryd.f62 0 K) (at' Tryd.f62 9) (sta_tutorref04_Reach_9 vfrom o0 o0_1 o0_2 o0_3 o0_4 o0_5 o1 o2 o3) =
    (fun (g62_9 : GT_tutorref04_Reach_9 R) (g62_12 : GT_tutorref04_Reach_12 R) (g62_15 : GT_tutorref04_Reach_15 R) (K0 : Int → (List Int) → (List (List Int)) → Option R) (vfrom o0 o0_1 o0_2 o0_3 : Int) (o0_4 o0_5 : List Int) (o1 : List Bool) (o2 : List Int) (o3 : List (List Int)) =>
    bi (decide (vfrom < (o2.length : Int)))
     (g62_12 (o2.length : Int) vfrom o0 o0_1 o0_2 o0_3 o0_4 o0_5 o1 o2 o3)
     (K0 0 o2 o3)) (gt_tutorref04_Reach_9 g) (gt_tutorref04_Reach_12 g) (gt_tutorref04_Reach_15 g) (fun r0 r1 r2 => K (.tup [.own 0, .nst 1, .v (.int .i64 r0)]) [.row ⟨true, 3, (.int .i64), r1⟩, .nst ⟨true, 22, (.sl 3 (.int .i64)), r2⟩]) vfrom o0 o0_1 o0_2 o0_3 o0_4 o0_5 o1 o2 o3 := by kernel_rfl

theorem gstep_tutorref04_Reach_12 (l_tutorref03_Check : LT_tutorref03_Check) (l_tutorref01_Join : LT_tutorref01_Join) {R : Type} (g : List Item → St → Option R) (K : AV → List O → Option R) (vuntil i o0 o0_1 o0_2 o0_3 : Int) (o0_4 o0_5 : List Int) (o1 : List Bool) (o2 : List Int) (o3 : List (List Int)) :
    runSeg Tryd.prog (T_tutorref04_Reach @l_tutorref03_Check @l_tutorref01_Join) cuts_tutorref04_Reach 0 g (finish Tryd.prog Tryd.f62 0 K) (at' Tryd.f62 12) (sta_tutorref04_Reach_12 vuntil i o0 o0_1 o0_2 o0_3 o0_4 o0_5 o1 o2 o3) =
    (fun (g62_9 : GT_tutorref04_Reach_9 R) (g62_12 : GT_tutorref04_Reach_12 R) (g62_15 : GT_tutorref04_Reach_15 R) (K0 : Int → (List Int) → (List (List Int)) → Option R) (vuntil i o0 o0_1 o0_2 o0_3 : Int) (o0_4 o0_5 : List Int) (o1 : List Bool) (o2 : List Int) (o3 : List (List Int)) =>
    bi (decide (i < vuntil))
     (g62_15 vuntil i 0 o0 o0_1 o0_2 o0_3 o0_4 o0_5 o1 o2 o3)
     (g62_9 vuntil o0 o0_1 o0_2 o0_3 o0_4 o0_5 o1 o2 o3)) (gt_tutorref04_Reach_9 g) (gt_tutorref04_Reach_12 g) (gt_tutorref04_Reach_15 g) (fun r0 r1 r2 => K (.tup [.own 0, .nst 1, .v (.int .i64 r0)]) [.row ⟨true, 3, (.int .i64), r1⟩, .nst ⟨true, 22, (.sl 3 (.int .i64)), r2⟩]) vuntil i o0 o0_1 o0_2 o0_3 o0_4 o0_5 o1 o2 o3 := by kernel_rfl

theorem gstep_tutorref04_Reach_15 (l_tutorref03_Check : LT_tutorref03_Check) (l_tutorref01_Join : LT_tutorref01_Join) {R : Type} (g : List Item → St → Option R) (K : AV → List O → Option R) (vuntil i x o0 o0_1 o0_2 o0_3 : Int) (o0_4 o0_5 : List Int) (o1 : List Bool) (o2 : List Int) (o3 : List (List Int)) :
    runSeg Tryd.prog (T_tutorref04_Reach @l_tutorref03_Check @l_tutorref01_Join) cuts_tutorref04_Reach 0 g (finish Tryd.prog Tryd.f62 0 K) (at' Tryd.f62 15) (sta_tutorref04_Reach_15 vuntil i x o0 o0_1 o0_2 o0_3 o0_4 o0_5 o1 o2 o3) =
    (fun (g62_9 : GT_tutorref04_Reach_9 R) (g62_12 : GT_tutorref04_Reach_12 R) (g62_15 : GT_tutorref04_Reach_15 R) (K0 : Int → (List Int) → (List (List Int)) → Option R) (vuntil i x o0 o0_1 o0_2 o0_3 : Int) (o0_4 o0_5 : List Int) (o1 : List Bool) (o2 : List Int) (o3 : List (List Int)) =>
    bi (decide (x < o0_1))
     (bi (decide (0 ≤ i ∧ i < ((o2.length : Nat) : Int)))
      (bi (decide (0 ≤ (IntKind.i64.wrap ((IntKind.i64.wrap ((o2.getD i.toNat 0) * o0_1)) + x)) ∧ (IntKind.i64.wrap ((IntKind.i64.wrap ((o2.getD i.toNat 0) * o0_1)) + x)) < ((o0_4.length : Nat) : Int)))
       (bi (decide (0 ≤ (o0_4.getD ((IntKind.i64.wrap ((IntKind.i64.wrap ((o2.getD i.toNat 0) * o0_1)) + x)).toNat) 0) ∧ (o0_4.getD ((IntKind.i64.wrap ((IntKind.i64.wrap ((o2.getD i.toNat 0) * o0_1)) + x)).toNat) 0) < ((o1.length : Nat) : Int)))
        (bi (!(o1.getD ((o0_4.getD ((IntKind.i64.wrap ((IntKind.i64.wrap ((o2.getD i.toNat 0) * o0_1)) + x)).toNat) 0).toNat) false))
         (bi (decide (0 ≤ (o0_4.getD ((IntKind.i64.wrap ((IntKind.i64.wrap ((o2.getD i.toNat 0) * o0_1)) + x)).toNat) 0) ∧ (o0_4.getD ((IntKind.i64.wrap ((IntKind.i64.wrap ((o2.getD i.toNat 0) * o0_1)) + x)).toNat) 0) < ((o1.length : Nat) : Int)))
          (bi (decide ((o2.length + [o0_4.getD ((IntKind.i64.wrap ((IntKind.i64.wrap ((o2.getD i.toNat 0) * o0_1)) + x)).toNat) 0].length) * 8 ≤ lim))
           (bi (decide (0 ≤ i ∧ i < ((o3.length : Nat) : Int)))
            (l_tutorref01_Join (o3.getD i.toNat []) [x]
             (fun r3 =>
              bi (decide ((o3.length + [r3].length) * 24 ≤ lim))
               (g62_15 vuntil i (IntKind.i64.wrap (x + 1)) o0 o0_1 o0_2 o0_3 o0_4 o0_5 (o1.set ((o0_4.getD ((IntKind.i64.wrap ((IntKind.i64.wrap ((o2.getD i.toNat 0) * o0_1)) + x)).toNat) 0).toNat) true) (o2 ++ [o0_4.getD ((IntKind.i64.wrap ((IntKind.i64.wrap ((o2.getD i.toNat 0) * o0_1)) + x)).toNat) 0]) (o3 ++ [r3]))
               none))
            none)
           none)
          none)
         (g62_15 vuntil i (IntKind.i64.wrap (x + 1)) o0 o0_1 o0_2 o0_3 o0_4 o0_5 o1 o2 o3))
        none)
       none)
      none)
     (g62_12 vuntil (IntKind.i64.wrap (i + 1)) o0 o0_1 o0_2 o0_3 o0_4 o0_5 o1 o2 o3)) (gt_tutorref04_Reach_9 g) (gt_tutorref04_Reach_12 g) (gt_tutorref04_Reach_15 g) (fun r0 r1 r2 => K (.tup [.own 0, .nst 1, .v (.int .i64 r0)]) [.row ⟨true, 3, (.int .i64), r1⟩, .nst ⟨true, 22, (.sl 3 (.int .i64)), r2⟩]) vuntil i x o0 o0_1 o0_2 o0_3 o0_4 o0_5 o1 o2 o3 := by kernel_rfl

theorem gentry_tutorref04_Reach (l_tutorref03_Check : LT_tutorref03_Check) (l_tutorref01_Join : LT_tutorref01_Join) {R : Type} (fuel : Nat) (K : AV → List O → Option R) (m m_1 m_2 m_3 : Int) (m_4 m_5 : List Int) :
    fnRun Tryd.prog (T_tutorref04_Reach @l_tutorref03_Check @l_tutorref01_Join) cuts_tutorref04_Reach Tryd.f62 fuel [.agg [.v (.int .i64 m), .v (.int .i64 m_1), .v (.int .i64 m_2), .v (.int .i64 m_3), .rd ⟨false, 3, (.int .i64), m_4⟩, .rd ⟨false, 3, (.int .i64), m_5⟩]] [] K =
    (fun (g62_9 : GT_tutorref04_Reach_9 R) (g62_12 : GT_tutorref04_Reach_12 R) (g62_15 : GT_tutorref04_Reach_15 R) (K0 : Int → (List Int) → (List (List Int)) → Option R) (m m_1 m_2 m_3 : Int) (m_4 m_5 : List Int) =>
    l_tutorref03_Check m m_1 m_2 m_3 m_4 m_5
     (fun r1 r2 =>
      bi (r2 != 0)
       (K0 r2 ([] : List Int) ([] : List (List Int)))
       (bi (decide (0 ≤ m_3 ∧ m_3 ≤ m_3 ∧ m_3 ≤ 1073741824))
        (bi (decide (0 ≤ (0 : Int) ∧ (0 : Int) < (((List.replicate m_3.toNat (false : Bool)).length : Nat) : Int)))
         (g62_9 0 m m_1 m_2 m_3 m_4 m_5 ((List.replicate m_3.toNat (false : Bool)).set 0 true) [0] [([] : List Int)])
         none)
        none))) (gt_tutorref04_Reach_9 (runO Tryd.prog (T_tutorref04_Reach @l_tutorref03_Check @l_tutorref01_Join) cuts_tutorref04_Reach 0 (finish Tryd.prog Tryd.f62 0 K) fuel)) (gt_tutorref04_Reach_12 (runO Tryd.prog (T_tutorref04_Reach @l_tutorref03_Check @l_tutorref01_Join) cuts_tutorref04_Reach 0 (finish Tryd.prog Tryd.f62 0 K) fuel)) (gt_tutorref04_Reach_15 (runO Tryd.prog (T_tutorref04_Reach @l_tutorref03_Check @l_tutorref01_Join) cuts_tutorref04_Reach 0 (finish Tryd.prog Tryd.f62 0 K) fuel)) (fun r0 r1 r2 => K (.tup [.own 0, .nst 1, .v (.int .i64 r0)]) [.row ⟨true, 3, (.int .i64), r1⟩, .nst ⟨true, 22, (.sl 3 (.int .i64)), r2⟩]) m m_1 m_2 m_3 m_4 m_5 := by kernel_rfl

theorem runs_tutorref04_Reach {R : Type} (K : AV → List O → Option R) : ∀ fuel : Nat,
    (gt_tutorref04_Reach_9 (runO Tryd.prog (T_tutorref04_Reach @l_tutorref03_Check @l_tutorref01_Join) cuts_tutorref04_Reach 0 (finish Tryd.prog Tryd.f62 0 K) fuel)) = (run_tutorref04_Reach (fun r0 r1 r2 => K (.tup [.own 0, .nst 1, .v (.int .i64 r0)]) [.row ⟨true, 3, (.int .i64), r1⟩, .nst ⟨true, 22, (.sl 3 (.int .i64)), r2⟩]) fuel).1 ∧
    (gt_tutorref04_Reach_12 (runO Tryd.prog (T_tutorref04_Reach @l_tutorref03_Check @l_tutorref01_Join) cuts_tutorref04_Reach 0 (finish Tryd.prog Tryd.f62 0 K) fuel)) = (run_tutorref04_Reach (fun r0 r1 r2 => K (.tup [.own 0, .nst 1, .v (.int .i64 r0)]) [.row ⟨true, 3, (.int .i64), r1⟩, .nst ⟨true, 22, (.sl 3 (.int .i64)), r2⟩]) fuel).2.1 ∧
    (gt_tutorref04_Reach_15 (runO Tryd.prog (T_tutorref04_Reach @l_tutorref03_Check @l_tutorref01_Join) cuts_tutorref04_Reach 0 (finish Tryd.prog Tryd.f62 0 K) fuel)) = (run_tutorref04_Reach (fun r0 r1 r2 => K (.tup [.own 0, .nst 1, .v (.int .i64 r0)]) [.row ⟨true, 3, (.int .i64), r1⟩, .nst ⟨true, 22, (.sl 3 (.int .i64)), r2⟩]) fuel).2.2
  | 0 => ⟨rfl, rfl, rfl⟩
  | fuel + 1 => by
    have ih := runs_tutorref04_Reach K fuel
    refine ⟨?_, ?_, ?_⟩
    · funext vfrom o0 o0_1 o0_2 o0_3 o0_4 o0_5 o1 o2 o3
      refine (gstep_tutorref04_Reach_9 @l_tutorref03_Check @l_tutorref01_Join _ K vfrom o0 o0_1 o0_2 o0_3 o0_4 o0_5 o1 o2 o3).trans ?_
      rw [ih.1, ih.2.1, ih.2.2]
      rfl
    · funext vuntil i o0 o0_1 o0_2 o0_3 o0_4 o0_5 o1 o2 o3
      refine (gstep_tutorref04_Reach_12 @l_tutorref03_Check @l_tutorref01_Join _ K vuntil i o0 o0_1 o0_2 o0_3 o0_4 o0_5 o1 o2 o3).trans ?_
      rw [ih.1, ih.2.1, ih.2.2]
      rfl
    · funext vuntil i x o0 o0_1 o0_2 o0_3 o0_4 o0_5 o1 o2 o3
      refine (gstep_tutorref04_Reach_15 @l_tutorref03_Check @l_tutorref01_Join _ K vuntil i x o0 o0_1 o0_2 o0_3 o0_4 o0_5 o1 o2 o3).trans ?_
      rw [ih.1, ih.2.1, ih.2.2]
      rfl

def S_tutorref04_Reach (l_tutorref04_Reach : LT_tutorref04_Reach) : Sum := ⟨[], fun {R} args ob K => match args, ob with
  | [.agg [.v (.int .i64 m), .v (.int .i64 m_1), .v (.int .i64 m_2), .v (.int .i64 m_3), .rd ⟨false, 3, (.int .i64), m_4⟩, .rd ⟨false, 3, (.int .i64), m_5⟩]], [] => l_tutorref04_Reach m m_1 m_2 m_3 m_4 m_5 (fun r0 r1 r2 => K (.tup [.own 0, .nst 1, .v (.int .i64 r0)]) [.row ⟨true, 3, (.int .i64), r1⟩, .nst ⟨true, 22, (.sl 3 (.int .i64)), r2⟩])
  | _, _ => none⟩

theorem sound_tutorref04_Reach : Sound Tryd.prog 62 (S_tutorref04_Reach @l_tutorref04_Reach) := by
  refine fn_sound (cuts := cuts_tutorref04_Reach) (fn := Tryd.f62) (Γ := (T_tutorref04_Reach @l_tutorref03_Check @l_tutorref01_Join)) wide right_T_tutorref04_Reach Tryd.func62 fun {R} K r args ob h => ?_
  unfold S_tutorref04_Reach at h
  dsimp only at h
  split at h
  · obtain ⟨n, hn⟩ := ok_tutorref04_Reach _ _ _ _ _ _ _ h
    refine ⟨Nat.le_of_ble_eq_true (by kernel_rfl), n, (gentry_tutorref04_Reach @l_tutorref03_Check @l_tutorref01_Join n K _ _ _ _ _ _).trans ?_⟩
    rw [(runs_tutorref04_Reach K n).1, (runs_tutorref04_Reach K n).2.1, (runs_tutorref04_Reach K n).2.2]
    exact hn
  · cases h

theorem call_tutorref04_Reach : Callable Tryd.prog 62 := ⟨_, Tryd.func62, by kernel_rfl, by kernel_rfl⟩

def T_tutorref04_pick : FuncId → Option Sum := G0

theorem right_T_tutorref04_pick : Right Tryd.prog T_tutorref04_pick := right_G0

abbrev cuts_tutorref04_pick : Cuts := [(3, [1, 2, 3, 6, 7, 8]), (7, [1, 2, 3, 6, 7, 8, 9, 10])]

abbrev sta_tutorref04_pick_3 (states place : List Int) (i o0 o0_1 o0_2 o0_3 : Int) (o0_4 o0_5 : List Int) (o1 o1_1 o1_2 o1_3 : Int) (o2 o3 : List Int) (o4 o4_1 o4_2 o4_3 : Int) (o5 o6 : List Int) : St := ⟨fr0 86 [(1, .rd ⟨false, 3, (.int .i64), states⟩), (2, .rd ⟨false, 3, (.int .i64), place⟩), (3, .ptr 0 0), (6, .ptr 1 0), (7, .ptr 4 0), (8, .v (.int .i64 i))], [.box 24 [.v (.int .i64 o0), .v (.int .i64 o0_1), .v (.int .i64 o0_2), .v (.int .i64 o0_3), .rd ⟨false, 3, (.int .i64), o0_4⟩, .rd ⟨false, 3, (.int .i64), o0_5⟩], .box 24 [.v (.int .i64 o1), .v (.int .i64 o1_1), .v (.int .i64 o1_2), .v (.int .i64 o1_3), .own 2, .own 3], .row ⟨true, 3, (.int .i64), o2⟩, .row ⟨true, 3, (.int .i64), o3⟩, .box 24 [.v (.int .i64 o4), .v (.int .i64 o4_1), .v (.int .i64 o4_2), .v (.int .i64 o4_3), .own 5, .own 6], .row ⟨true, 3, (.int .i64), o5⟩, .row ⟨true, 3, (.int .i64), o6⟩]⟩

abbrev gt_tutorref04_pick_3 {R : Type} (g : List Item → St → Option R) : GT_tutorref04_pick_3 R := fun (states place : List Int) (i o0 o0_1 o0_2 o0_3 : Int) (o0_4 o0_5 : List Int) (o1 o1_1 o1_2 o1_3 : Int) (o2 o3 : List Int) (o4 o4_1 o4_2 o4_3 : Int) (o5 o6 : List Int) => g (at' Tryd.f63 3) (sta_tutorref04_pick_3 states place i o0 o0_1 o0_2 o0_3 o0_4 o0_5 o1 o1_1 o1_2 o1_3 o2 o3 o4 o4_1 o4_2 o4_3 o5 o6)

abbrev sta_tutorref04_pick_7 (states place : List Int) (i s x o0 o0_1 o0_2 o0_3 : Int) (o0_4 o0_5 : List Int) (o1 o1_1 o1_2 o1_3 : Int) (o2 o3 : List Int) (o4 o4_1 o4_2 o4_3 : Int) (o5 o6 : List Int) : St := ⟨fr0 86 [(1, .rd ⟨false, 3, (.int .i64), states⟩), (2, .rd ⟨false, 3, (.int .i64), place⟩), (3, .ptr 0 0), (6, .ptr 1 0), (7, .ptr 4 0), (8, .v (.int .i64 i)), (9, .v (.int .i64 s)), (10, .v (.int .i64 x))], [.box 24 [.v (.int .i64 o0), .v (.int .i64 o0_1), .v (.int .i64 o0_2), .v (.int .i64 o0_3), .rd ⟨false, 3, (.int .i64), o0_4⟩, .rd ⟨false, 3, (.int .i64), o0_5⟩], .box 24 [.v (.int .i64 o1), .v (.int .i64 o1_1), .v (.int .i64 o1_2), .v (.int .i64 o1_3), .own 2, .own 3], .row ⟨true, 3, (.int .i64), o2⟩, .row ⟨true, 3, (.int .i64), o3⟩, .box 24 [.v (.int .i64 o4), .v (.int .i64 o4_1), .v (.int .i64 o4_2), .v (.int .i64 o4_3), .own 5, .own 6], .row ⟨true, 3, (.int .i64), o5⟩, .row ⟨true, 3, (.int .i64), o6⟩]⟩

abbrev gt_tutorref04_pick_7 {R : Type} (g : List Item → St → Option R) : GT_tutorref04_pick_7 R := fun (states place : List Int) (i s x o0 o0_1 o0_2 o0_3 : Int) (o0_4 o0_5 : List Int) (o1 o1_1 o1_2 o1_3 : Int) (o2 o3 : List Int) (o4 o4_1 o4_2 o4_3 : Int) (o5 o6 : List Int) => g (at' Tryd.f63 7) (sta_tutorref04_pick_7 states place i s x o0 o0_1 o0_2 o0_3 o0_4 o0_5 o1 o1_1 o1_2 o1_3 o2 o3 o4 o4_1 o4_2 o4_3 o5 o6)

theorem gstep_tutorref04_pick_3 {R : Type} (g : List Item → St → Option R) (K : AV → List O → Option R) (states place : List Int) (i o0 o0_1 o0_2 o0_3 : Int) (o0_4 o0_5 : List Int) (o1 o1_1 o1_2 o1_3 : Int) (o2 o3 : List Int) (o4 o4_1 o4_2 o4_3 : Int) (o5 o6 : List Int) :
    runSeg Tryd.prog T_tutorref04_pick cuts_tutorref04_pick 0 g (finish Tryd.prog Tryd.f63 0 K) (at' Tryd.f63 3) (sta_tutorref04_pick_3 states place i o0 o0_1 o0_2 o0_3 o0_4 o0_5 o1 o1_1 o1_2 o1_3 o2 o3 o4 o4_1 o4_2 o4_3 o5 o6) =
    (fun (g63_3 : GT_tutorref04_pick_3 R) (g63_7 : GT_tutorref04_pick_7 R) (K0 : Int → Int → Int → Int → (List Int) → (List Int) → Option R) (states place : List Int) (i o0 o0_1 o0_2 o0_3 : Int) (o0_4 o0_5 : List Int) (o1 o1_1 o1_2 o1_3 : Int) (o2 o3 : List Int) (o4 o4_1 o4_2 o4_3 : Int) (o5 o6 : List Int) =>
    bi (decide (i < (states.length : Int)))
     (bi (decide (0 ≤ i ∧ i < ((states.length : Nat) : Int)))
      (g63_7 states place i (states.getD i.toNat 0) 0 o0 o0_1 o0_2 o0_3 o0_4 o0_5 o1 o1_1 o1_2 o1_3 o2 o3 o4 o4_1 o4_2 o4_3 o5 o6)
      none)
     (K0 o4 o4_1 o4_2 o4_3 o5 o6)) (gt_tutorref04_pick_3 g) (gt_tutorref04_pick_7 g) (fun r0 r1 r2 r3 r4 r5 => K (.agg [.v (.int .i64 r0), .v (.int .i64 r1), .v (.int .i64 r2), .v (.int .i64 r3), .own 0, .own 1]) [.row ⟨true, 3, (.int .i64), r4⟩, .row ⟨true, 3, (.int .i64), r5⟩]) states place i o0 o0_1 o0_2 o0_3 o0_4 o0_5 o1 o1_1 o1_2 o1_3 o2 o3 o4 o4_1 o4_2 o4_3 o5 o6 := by kernel_rfl

theorem gstep_tutorref04_pick_7 {R : Type} (g : List Item → St → Option R) (K : AV → List O → Option R) (states place : List Int) (i s x o0 o0_1 o0_2 o0_3 : Int) (o0_4 o0_5 : List Int) (o1 o1_1 o1_2 o1_3 : Int) (o2 o3 : List Int) (o4 o4_1 o4_2 o4_3 : Int) (o5 o6 : List Int) :
    runSeg Tryd.prog T_tutorref04_pick cuts_tutorref04_pick 0 g (finish Tryd.prog Tryd.f63 0 K) (at' Tryd.f63 7) (sta_tutorref04_pick_7 states place i s x o0 o0_1 o0_2 o0_3 o0_4 o0_5 o1 o1_1 o1_2 o1_3 o2 o3 o4 o4_1 o4_2 o4_3 o5 o6) =
    (fun (g63_3 : GT_tutorref04_pick_3 R) (g63_7 : GT_tutorref04_pick_7 R) (K0 : Int → Int → Int → Int → (List Int) → (List Int) → Option R) (states place : List Int) (i s x o0 o0_1 o0_2 o0_3 : Int) (o0_4 o0_5 : List Int) (o1 o1_1 o1_2 o1_3 : Int) (o2 o3 : List Int) (o4 o4_1 o4_2 o4_3 : Int) (o5 o6 : List Int) =>
    bi (decide (x < o0_1))
     (bi (decide (0 ≤ (IntKind.i64.wrap ((IntKind.i64.wrap (s * o0_1)) + x)) ∧ (IntKind.i64.wrap ((IntKind.i64.wrap (s * o0_1)) + x)) < ((o0_4.length : Nat) : Int)))
      (bi (decide (0 ≤ (o0_4.getD ((IntKind.i64.wrap ((IntKind.i64.wrap (s * o0_1)) + x)).toNat) 0) ∧ (o0_4.getD ((IntKind.i64.wrap ((IntKind.i64.wrap (s * o0_1)) + x)).toNat) 0) < ((place.length : Nat) : Int)))
       (bi (decide ((o5.length + [place.getD ((o0_4.getD ((IntKind.i64.wrap ((IntKind.i64.wrap (s * o0_1)) + x)).toNat) 0).toNat) 0].length) * 8 ≤ lim))
        (bi (o0 == 2)
         (bi (decide (0 ≤ (IntKind.i64.wrap ((IntKind.i64.wrap (s * o0_1)) + x)) ∧ (IntKind.i64.wrap ((IntKind.i64.wrap (s * o0_1)) + x)) < ((o0_5.length : Nat) : Int)))
          (bi (decide ((o6.length + [o0_5.getD ((IntKind.i64.wrap ((IntKind.i64.wrap (s * o0_1)) + x)).toNat) 0].length) * 8 ≤ lim))
           (g63_7 states place i s (IntKind.i64.wrap (x + 1)) o0 o0_1 o0_2 o0_3 o0_4 o0_5 o1 o1_1 o1_2 o1_3 o2 o3 o4 o4_1 o4_2 o4_3 (o5 ++ [place.getD ((o0_4.getD ((IntKind.i64.wrap ((IntKind.i64.wrap (s * o0_1)) + x)).toNat) 0).toNat) 0]) (o6 ++ [o0_5.getD ((IntKind.i64.wrap ((IntKind.i64.wrap (s * o0_1)) + x)).toNat) 0]))
           none)
          none)
         (g63_7 states place i s (IntKind.i64.wrap (x + 1)) o0 o0_1 o0_2 o0_3 o0_4 o0_5 o1 o1_1 o1_2 o1_3 o2 o3 o4 o4_1 o4_2 o4_3 (o5 ++ [place.getD ((o0_4.getD ((IntKind.i64.wrap ((IntKind.i64.wrap (s * o0_1)) + x)).toNat) 0).toNat) 0]) o6))
        none)
       none)
      none)
     (bi (o0 == 1)
      (bi (decide (0 ≤ s ∧ s < ((o0_5.length : Nat) : Int)))
       (bi (decide ((o6.length + [o0_5.getD s.toNat 0].length) * 8 ≤ lim))
        (g63_3 states place (IntKind.i64.wrap (i + 1)) o0 o0_1 o0_2 o0_3 o0_4 o0_5 o1 o1_1 o1_2 o1_3 o2 o3 o4 o4_1 o4_2 o4_3 o5 (o6 ++ [o0_5.getD s.toNat 0]))
        none)
       none)
      (g63_3 states place (IntKind.i64.wrap (i + 1)) o0 o0_1 o0_2 o0_3 o0_4 o0_5 o1 o1_1 o1_2 o1_3 o2 o3 o4 o4_1 o4_2 o4_3 o5 o6))) (gt_tutorref04_pick_3 g) (gt_tutorref04_pick_7 g) (fun r0 r1 r2 r3 r4 r5 => K (.agg [.v (.int .i64 r0), .v (.int .i64 r1), .v (.int .i64 r2), .v (.int .i64 r3), .own 0, .own 1]) [.row ⟨true, 3, (.int .i64), r4⟩, .row ⟨true, 3, (.int .i64), r5⟩]) states place i s x o0 o0_1 o0_2 o0_3 o0_4 o0_5 o1 o1_1 o1_2 o1_3 o2 o3 o4 o4_1 o4_2 o4_3 o5 o6 := by kernel_rfl

theorem gentry_tutorref04_pick {R : Type} (fuel : Nat) (K : AV → List O → Option R) (m m_1 m_2 m_3 : Int) (m_4 m_5 states place : List Int) :
    fnRun Tryd.prog T_tutorref04_pick cuts_tutorref04_pick Tryd.f63 fuel [.agg [.v (.int .i64 m), .v (.int .i64 m_1), .v (.int .i64 m_2), .v (.int .i64 m_3), .rd ⟨false, 3, (.int .i64), m_4⟩, .rd ⟨false, 3, (.int .i64), m_5⟩], .rd ⟨false, 3, (.int .i64), states⟩, .rd ⟨false, 3, (.int .i64), place⟩] [] K =
    (fun (g63_3 : GT_tutorref04_pick_3 R) (g63_7 : GT_tutorref04_pick_7 R) (K0 : Int → Int → Int → Int → (List Int) → (List Int) → Option R) (m m_1 m_2 m_3 : Int) (m_4 m_5 states place : List Int) =>
    g63_3 states place 0 m m_1 m_2 m_3 m_4 m_5 0 0 0 0 ([] : List Int) ([] : List Int) m m_1 m_2 (states.length : Int) ([] : List Int) ([] : List Int)) (gt_tutorref04_pick_3 (runO Tryd.prog T_tutorref04_pick cuts_tutorref04_pick 0 (finish Tryd.prog Tryd.f63 0 K) fuel)) (gt_tutorref04_pick_7 (runO Tryd.prog T_tutorref04_pick cuts_tutorref04_pick 0 (finish Tryd.prog Tryd.f63 0 K) fuel)) (fun r0 r1 r2 r3 r4 r5 => K (.agg [.v (.int .i64 r0), .v (.int .i64 r1), .v (.int .i64 r2), .v (.int .i64 r3), .own 0, .own 1]) [.row ⟨true, 3, (.int .i64), r4⟩, .row ⟨true, 3, (.int .i64), r5⟩]) m m_1 m_2 m_3 m_4 m_5 states place := by kernel_rfl

theorem runs_tutorref04_pick {R : Type} (K : AV → List O → Option R) : ∀ fuel : Nat,
    (gt_tutorref04_pick_3 (runO Tryd.prog T_tutorref04_pick cuts_tutorref04_pick 0 (finish Tryd.prog Tryd.f63 0 K) fuel)) = (run_tutorref04_pick (fun r0 r1 r2 r3 r4 r5 => K (.agg [.v (.int .i64 r0), .v (.int .i64 r1), .v (.int .i64 r2), .v (.int .i64 r3), .own 0, .own 1]) [.row ⟨true, 3, (.int .i64), r4⟩, .row ⟨true, 3, (.int .i64), r5⟩]) fuel).1 ∧
    (gt_tutorref04_pick_7 (runO Tryd.prog T_tutorref04_pick cuts_tutorref04_pick 0 (finish Tryd.prog Tryd.f63 0 K) fuel)) = (run_tutorref04_pick (fun r0 r1 r2 r3 r4 r5 => K (.agg [.v (.int .i64 r0), .v (.int .i64 r1), .v (.int .i64 r2), .v (.int .i64 r3), .own 0, .own 1]) [.row ⟨true, 3, (.int .i64), r4⟩, .row ⟨true, 3, (.int .i64), r5⟩]) fuel).2
  | 0 => ⟨rfl, rfl⟩
  | fuel + 1 => by
    have ih := runs_tutorref04_pick K fuel
    refine ⟨?_, ?_⟩
    · funext states place i o0 o0_1 o0_2 o0_3 o0_4 o0_5 o1 o1_1 o1_2 o1_3 o2 o3 o4 o4_1 o4_2 o4_3 o5 o6
      refine (gstep_tutorref04_pick_3 _ K states place i o0 o0_1 o0_2 o0_3 o0_4 o0_5 o1 o1_1 o1_2 o1_3 o2 o3 o4 o4_1 o4_2 o4_3 o5 o6).trans ?_
      rw [ih.1, ih.2]
      rfl
    · funext states place i s x o0 o0_1 o0_2 o0_3 o0_4 o0_5 o1 o1_1 o1_2 o1_3 o2 o3 o4 o4_1 o4_2 o4_3 o5 o6
      refine (gstep_tutorref04_pick_7 _ K states place i s x o0 o0_1 o0_2 o0_3 o0_4 o0_5 o1 o1_1 o1_2 o1_3 o2 o3 o4 o4_1 o4_2 o4_3 o5 o6).trans ?_
      rw [ih.1, ih.2]
      rfl

def S_tutorref04_pick (l_tutorref04_pick : LT_tutorref04_pick) : Sum := ⟨[], fun {R} args ob K => match args, ob with
  | [.agg [.v (.int .i64 m), .v (.int .i64 m_1), .v (.int .i64 m_2), .v (.int .i64 m_3), .rd ⟨false, 3, (.int .i64), m_4⟩, .rd ⟨false, 3, (.int .i64), m_5⟩], .rd ⟨false, 3, (.int .i64), states⟩, .rd ⟨false, 3, (.int .i64), place⟩], [] => l_tutorref04_pick m m_1 m_2 m_3 m_4 m_5 states place (fun r0 r1 r2 r3 r4 r5 => K (.agg [.v (.int .i64 r0), .v (.int .i64 r1), .v (.int .i64 r2), .v (.int .i64 r3), .own 0, .own 1]) [.row ⟨true, 3, (.int .i64), r4⟩, .row ⟨true, 3, (.int .i64), r5⟩])
  | _, _ => none⟩

theorem sound_tutorref04_pick : Sound Tryd.prog 63 (S_tutorref04_pick @l_tutorref04_pick) := by
  refine fn_sound (cuts := cuts_tutorref04_pick) (fn := Tryd.f63) (Γ := T_tutorref04_pick) wide right_T_tutorref04_pick Tryd.func63 fun {R} K r args ob h => ?_
  unfold S_tutorref04_pick at h
  dsimp only at h
  split at h
  · obtain ⟨n, hn⟩ := ok_tutorref04_pick _ _ _ _ _ _ _ _ _ h
    refine ⟨Nat.le_of_ble_eq_true (by kernel_rfl), n, (gentry_tutorref04_pick n K _ _ _ _ _ _ _ _).trans ?_⟩
    rw [(runs_tutorref04_pick K n).1, (runs_tutorref04_pick K n).2]
    exact hn
  · cases h

theorem call_tutorref04_pick : Callable Tryd.prog 63 := ⟨_, Tryd.func63, by kernel_rfl, by kernel_rfl⟩

def T_tutorref04_Canon (l_tutorref04_Reach : LT_tutorref04_Reach) (l_tutorref04_pick : LT_tutorref04_pick) : FuncId → Option Sum := (addS (addS G0 62 (S_tutorref04_Reach @l_tutorref04_Reach)) 63 (S_tutorref04_pick @l_tutorref04_pick))

theorem right_T_tutorref04_Canon : Right Tryd.prog (T_tutorref04_Canon @l_tutorref04_Reach @l_tutorref04_pick) := (right_add (right_add right_G0 call_tutorref04_Reach sound_tutorref04_Reach) call_tutorref04_pick sound_tutorref04_pick)

abbrev cuts_tutorref04_Canon : Cuts := [(6, [1, 2, 4, 7, 8])]

abbrev sta_tutorref04_Canon_6 (i o0 o0_1 o0_2 o0_3 : Int) (o0_4 o0_5 : List Int) (o1 o1_1 o1_2 o1_3 : Int) (o2 o3 o4 o5 : List Int) : St := ⟨fr0 39 [(1, .ptr 0 0), (2, .ptr 1 0), (4, .own 4), (7, .own 5), (8, .v (.int .i64 i))], [.box 24 [.v (.int .i64 o0), .v (.int .i64 o0_1), .v (.int .i64 o0_2), .v (.int .i64 o0_3), .rd ⟨false, 3, (.int .i64), o0_4⟩, .rd ⟨false, 3, (.int .i64), o0_5⟩], .box 24 [.v (.int .i64 o1), .v (.int .i64 o1_1), .v (.int .i64 o1_2), .v (.int .i64 o1_3), .own 2, .own 3], .row ⟨true, 3, (.int .i64), o2⟩, .row ⟨true, 3, (.int .i64), o3⟩, .row ⟨true, 3, (.int .i64), o4⟩, .row ⟨true, 3, (.int .i64), o5⟩]⟩

abbrev gt_tutorref04_Canon_6 {R : Type} (g : List Item → St → Option R) : GT_tutorref04_Canon_6 R := fun (i o0 o0_1 o0_2 o0_3 : Int) (o0_4 o0_5 : List Int) (o1 o1_1 o1_2 o1_3 : Int) (o2 o3 o4 o5 : List Int) => g (at' Tryd.f44 6) (sta_tutorref04_Canon_6 i o0 o0_1 o0_2 o0_3 o0_4 o0_5 o1 o1_1 o1_2 o1_3 o2 o3 o4 o5)

theorem gstep_tutorref04_Canon_6 (l_tutorref04_Reach : LT_tutorref04_Reach) (l_tutorref04_pick : LT_tutorref04_pick) {R : Type} (g : List Item → St → Option R) (K : AV → List O → Option R) (i o0 o0_1 o0_2 o0_3 : Int) (o0_4 o0_5 : List Int) (o1 o1_1 o1_2 o1_3 : Int) (o2 o3 o4 o5 : List Int) :
    runSeg Tryd.prog (T_tutorref04_Canon @l_tutorref04_Reach @l_tutorref04_pick) cuts_tutorref04_Canon 0 g (finish Tryd.prog Tryd.f44 0 K) (at' Tryd.f44 6) (sta_tutorref04_Canon_6 i o0 o0_1 o0_2 o0_3 o0_4 o0_5 o1 o1_1 o1_2 o1_3 o2 o3 o4 o5) =
    (fun (g44_6 : GT_tutorref04_Canon_6 R) (K0 : Int → Int → Int → Int → Int → (List Int) → (List Int) → Option R) (i o0 o0_1 o0_2 o0_3 : Int) (o0_4 o0_5 : List Int) (o1 o1_1 o1_2 o1_3 : Int) (o2 o3 o4 o5 : List Int) =>
    bi (decide (i < (o4.length : Int)))
     (bi (decide (0 ≤ i ∧ i < ((o4.length : Nat) : Int)))
      (bi (decide (0 ≤ (o4.getD i.toNat 0) ∧ (o4.getD i.toNat 0) < ((o5.length : Nat) : Int)))
       (g44_6 (IntKind.i64.wrap (i + 1)) o0 o0_1 o0_2 o0_3 o0_4 o0_5 o1 o1_1 o1_2 o1_3 o2 o3 o4 (o5.set ((o4.getD i.toNat 0).toNat) i))
       none)
      none)
     (l_tutorref04_pick o0 o0_1 o0_2 o0_3 o0_4 o0_5 o4 o5
      (fun r4 r5 r6 r7 r8 r9 =>
       K0 r4 r5 r6 r7 0 r8 r9))) (gt_tutorref04_Canon_6 g) (fun r0 r1 r2 r3 r4 r5 r6 => K (.tup [.agg [.v (.int .i64 r0), .v (.int .i64 r1), .v (.int .i64 r2), .v (.int .i64 r3), .own 0, .own 1], .v (.int .i64 r4)]) [.row ⟨true, 3, (.int .i64), r5⟩, .row ⟨true, 3, (.int .i64), r6⟩]) i o0 o0_1 o0_2 o0_3 o0_4 o0_5 o1 o1_1 o1_2 o1_3 o2 o3 o4 o5 := by kernel_rfl

theorem gentry_tutorref04_Canon (l_tutorref04_Reach : LT_tutorref04_Reach) (l_tutorref04_pick : LT_tutorref04_pick) {R : Type} (fuel : Nat) (K : AV → List O → Option R) (m m_1 m_2 m_3 : Int) (m_4 m_5 : List Int) :
    fnRun Tryd.prog (T_tutorref04_Canon @l_tutorref04_Reach @l_tutorref04_pick) cuts_tutorref04_Canon Tryd.f44 fuel [.agg [.v (.int .i64 m), .v (.int .i64 m_1), .v (.int .i64 m_2), .v (.int .i64 m_3), .rd ⟨false, 3, (.int .i64), m_4⟩, .rd ⟨false, 3, (.int .i64), m_5⟩]] [] K =
    (fun (g44_6 : GT_tutorref04_Canon_6 R) (K0 : Int → Int → Int → Int → Int → (List Int) → (List Int) → Option R) (m m_1 m_2 m_3 : Int) (m_4 m_5 : List Int) =>
    l_tutorref04_Reach m m_1 m_2 m_3 m_4 m_5
     (fun r1 r2 r3 =>
      bi (r1 != 0)
       (K0 0 0 0 0 r1 ([] : List Int) ([] : List Int))
       (bi (decide (0 ≤ m_3 ∧ m_3 ≤ m_3 ∧ m_3 ≤ 1073741824))
        (g44_6 0 m m_1 m_2 m_3 m_4 m_5 0 0 0 0 ([] : List Int) ([] : List Int) r2 (List.replicate m_3.toNat (0 : Int)))
        none))) (gt_tutorref04_Canon_6 (runO Tryd.prog (T_tutorref04_Canon @l_tutorref04_Reach @l_tutorref04_pick) cuts_tutorref04_Canon 0 (finish Tryd.prog Tryd.f44 0 K) fuel)) (fun r0 r1 r2 r3 r4 r5 r6 => K (.tup [.agg [.v (.int .i64 r0), .v (.int .i64 r1), .v (.int .i64 r2), .v (.int .i64 r3), .own 0, .own 1], .v (.int .i64 r4)]) [.row ⟨true, 3, (.int .i64), r5⟩, .row ⟨true, 3, (.int .i64), r6⟩]) m m_1 m_2 m_3 m_4 m_5 := by kernel_rfl

theorem runs_tutorref04_Canon {R : Type} (K : AV → List O → Option R) : ∀ fuel : Nat,
    (gt_tutorref04_Canon_6 (runO Tryd.prog (T_tutorref04_Canon @l_tutorref04_Reach @l_tutorref04_pick) cuts_tutorref04_Canon 0 (finish Tryd.prog Tryd.f44 0 K) fuel)) = (run_tutorref04_Canon (fun r0 r1 r2 r3 r4 r5 r6 => K (.tup [.agg [.v (.int .i64 r0), .v (.int .i64 r1), .v (.int .i64 r2), .v (.int .i64 r3), .own 0, .own 1], .v (.int .i64 r4)]) [.row ⟨true, 3, (.int .i64), r5⟩, .row ⟨true, 3, (.int .i64), r6⟩]) fuel)
  | 0 => rfl
  | fuel + 1 => by
    have ih := runs_tutorref04_Canon K fuel
    funext i o0 o0_1 o0_2 o0_3 o0_4 o0_5 o1 o1_1 o1_2 o1_3 o2 o3 o4 o5
    refine (gstep_tutorref04_Canon_6 @l_tutorref04_Reach @l_tutorref04_pick _ K i o0 o0_1 o0_2 o0_3 o0_4 o0_5 o1 o1_1 o1_2 o1_3 o2 o3 o4 o5).trans ?_
    rw [ih]
    rfl

def S_tutorref04_Canon (l_tutorref04_Canon : LT_tutorref04_Canon) : Sum := ⟨[], fun {R} args ob K => match args, ob with
  | [.agg [.v (.int .i64 m), .v (.int .i64 m_1), .v (.int .i64 m_2), .v (.int .i64 m_3), .rd ⟨false, 3, (.int .i64), m_4⟩, .rd ⟨false, 3, (.int .i64), m_5⟩]], [] => l_tutorref04_Canon m m_1 m_2 m_3 m_4 m_5 (fun r0 r1 r2 r3 r4 r5 r6 => K (.tup [.agg [.v (.int .i64 r0), .v (.int .i64 r1), .v (.int .i64 r2), .v (.int .i64 r3), .own 0, .own 1], .v (.int .i64 r4)]) [.row ⟨true, 3, (.int .i64), r5⟩, .row ⟨true, 3, (.int .i64), r6⟩])
  | _, _ => none⟩

theorem sound_tutorref04_Canon : Sound Tryd.prog 44 (S_tutorref04_Canon @l_tutorref04_Canon) := by
  refine fn_sound (cuts := cuts_tutorref04_Canon) (fn := Tryd.f44) (Γ := (T_tutorref04_Canon @l_tutorref04_Reach @l_tutorref04_pick)) wide right_T_tutorref04_Canon Tryd.func44 fun {R} K r args ob h => ?_
  unfold S_tutorref04_Canon at h
  dsimp only at h
  split at h
  · obtain ⟨n, hn⟩ := ok_tutorref04_Canon _ _ _ _ _ _ _ h
    refine ⟨Nat.le_of_ble_eq_true (by kernel_rfl), n, (gentry_tutorref04_Canon @l_tutorref04_Reach @l_tutorref04_pick n K _ _ _ _ _ _).trans ?_⟩
    rw [(runs_tutorref04_Canon K n)]
    exact hn
  · cases h

theorem call_tutorref04_Canon : Callable Tryd.prog 44 := ⟨_, Tryd.func44, by kernel_rfl, by kernel_rfl⟩

def T_tutorref05_Minimise (l_tutorref05_Classes : LT_tutorref05_Classes) (l_tutorref04_Canon : LT_tutorref04_Canon) : FuncId → Option Sum := (addS (addS G0 43 (S_tutorref05_Classes @l_tutorref05_Classes)) 44 (S_tutorref04_Canon @l_tutorref04_Canon))

theorem right_T_tutorref05_Minimise : Right Tryd.prog (T_tutorref05_Minimise @l_tutorref05_Classes @l_tutorref04_Canon) := (right_add (right_add right_G0 call_tutorref05_Classes sound_tutorref05_Classes) call_tutorref04_Canon sound_tutorref04_Canon)

abbrev cuts_tutorref05_Minimise : Cuts := [(6, [1, 2, 4, 7, 8]), (11, [1, 2, 4, 7, 8, 9])]

abbrev sta_tutorref05_Minimise_6 (s o0 o0_1 o0_2 o0_3 : Int) (o0_4 o0_5 : List Int) (o1 o1_1 o1_2 o1_3 : Int) (o2 o3 o4 : List Int) (o5 o5_1 o5_2 o5_3 : Int) (o6 o7 : List Int) : St := ⟨fr0 103 [(1, .ptr 0 0), (2, .ptr 1 0), (4, .own 4), (7, .ptr 5 0), (8, .v (.int .i64 s))], [.box 24 [.v (.int .i64 o0), .v (.int .i64 o0_1), .v (.int .i64 o0_2), .v (.int .i64 o0_3), .rd ⟨false, 3, (.int .i64), o0_4⟩, .rd ⟨false, 3, (.int .i64), o0_5⟩], .box 24 [.v (.int .i64 o1), .v (.int .i64 o1_1), .v (.int .i64 o1_2), .v (.int .i64 o1_3), .own 2, .own 3], .row ⟨true, 3, (.int .i64), o2⟩, .row ⟨true, 3, (.int .i64), o3⟩, .row ⟨true, 3, (.int .i64), o4⟩, .box 24 [.v (.int .i64 o5), .v (.int .i64 o5_1), .v (.int .i64 o5_2), .v (.int .i64 o5_3), .own 6, .own 7], .row ⟨true, 3, (.int .i64), o6⟩, .row ⟨true, 3, (.int .i64), o7⟩]⟩

abbrev gt_tutorref05_Minimise_6 {R : Type} (g : List Item → St → Option R) : GT_tutorref05_Minimise_6 R := fun (s o0 o0_1 o0_2 o0_3 : Int) (o0_4 o0_5 : List Int) (o1 o1_1 o1_2 o1_3 : Int) (o2 o3 o4 : List Int) (o5 o5_1 o5_2 o5_3 : Int) (o6 o7 : List Int) => g (at' Tryd.f27 6) (sta_tutorref05_Minimise_6 s o0 o0_1 o0_2 o0_3 o0_4 o0_5 o1 o1_1 o1_2 o1_3 o2 o3 o4 o5 o5_1 o5_2 o5_3 o6 o7)

abbrev sta_tutorref05_Minimise_11 (s x o0 o0_1 o0_2 o0_3 : Int) (o0_4 o0_5 : List Int) (o1 o1_1 o1_2 o1_3 : Int) (o2 o3 o4 : List Int) (o5 o5_1 o5_2 o5_3 : Int) (o6 o7 : List Int) : St := ⟨fr0 103 [(1, .ptr 0 0), (2, .ptr 1 0), (4, .own 4), (7, .ptr 5 0), (8, .v (.int .i64 s)), (9, .v (.int .i64 x))], [.box 24 [.v (.int .i64 o0), .v (.int .i64 o0_1), .v (.int .i64 o0_2), .v (.int .i64 o0_3), .rd ⟨false, 3, (.int .i64), o0_4⟩, .rd ⟨false, 3, (.int .i64), o0_5⟩], .box 24 [.v (.int .i64 o1), .v (.int .i64 o1_1), .v (.int .i64 o1_2), .v (.int .i64 o1_3), .own 2, .own 3], .row ⟨true, 3, (.int .i64), o2⟩, .row ⟨true, 3, (.int .i64), o3⟩, .row ⟨true, 3, (.int .i64), o4⟩, .box 24 [.v (.int .i64 o5), .v (.int .i64 o5_1), .v (.int .i64 o5_2), .v (.int .i64 o5_3), .own 6, .own 7], .row ⟨true, 3, (.int .i64), o6⟩, .row ⟨true, 3, (.int .i64), o7⟩]⟩

abbrev gt_tutorref05_Minimise_11 {R : Type} (g : List Item → St → Option R) : GT_tutorref05_Minimise_11 R := fun (s x o0 o0_1 o0_2 o0_3 : Int) (o0_4 o0_5 : List Int) (o1 o1_1 o1_2 o1_3 : Int) (o2 o3 o4 : List Int) (o5 o5_1 o5_2 o5_3 : Int) (o6 o7 : List Int) => g (at' Tryd.f27 11) (sta_tutorref05_Minimise_11 s x o0 o0_1 o0_2 o0_3 o0_4 o0_5 o1 o1_1 o1_2 o1_3 o2 o3 o4 o5 o5_1 o5_2 o5_3 o6 o7)

theorem gstep_tutorref05_Minimise_6 (l_tutorref05_Classes : LT_tutorref05_Classes) (l_tutorref04_Canon : LT_tutorref04_Canon) {R : Type} (g : List Item → St → Option R) (K : AV → List O → Option R) (s o0 o0_1 o0_2 o0_3 : Int) (o0_4 o0_5 : List Int) (o1 o1_1 o1_2 o1_3 : Int) (o2 o3 o4 : List Int) (o5 o5_1 o5_2 o5_3 : Int) (o6 o7 : List Int) :
    runSeg Tryd.prog (T_tutorref05_Minimise @l_tutorref05_Classes @l_tutorref04_Canon) cuts_tutorref05_Minimise 0 g (finish Tryd.prog Tryd.f27 0 K) (at' Tryd.f27 6) (sta_tutorref05_Minimise_6 s o0 o0_1 o0_2 o0_3 o0_4 o0_5 o1 o1_1 o1_2 o1_3 o2 o3 o4 o5 o5_1 o5_2 o5_3 o6 o7) =
    (fun (g27_6 : GT_tutorref05_Minimise_6 R) (g27_11 : GT_tutorref05_Minimise_11 R) (K0 : Int → Int → Int → Int → Int → (List Int) → (List Int) → Option R) (s o0 o0_1 o0_2 o0_3 : Int) (o0_4 o0_5 : List Int) (o1 o1_1 o1_2 o1_3 : Int) (o2 o3 o4 : List Int) (o5 o5_1 o5_2 o5_3 : Int) (o6 o7 : List Int) =>
    bi (decide (s < o0_3))
     (bi (decide (0 ≤ s ∧ s < ((o4.length : Nat) : Int)))
      (bi ((o4.getD s.toNat 0) != o5_3)
       (g27_6 (IntKind.i64.wrap (s + 1)) o0 o0_1 o0_2 o0_3 o0_4 o0_5 o1 o1_1 o1_2 o1_3 o2 o3 o4 o5 o5_1 o5_2 o5_3 o6 o7)
       (g27_11 s 0 o0 o0_1 o0_2 o0_3 o0_4 o0_5 o1 o1_1 o1_2 o1_3 o2 o3 o4 o5 o5_1 o5_2 (IntKind.i64.wrap (o5_3 + 1)) o6 o7))
      none)
     (l_tutorref04_Canon o5 o5_1 o5_2 o5_3 o6 o7
      (fun r4 r5 r6 r7 r8 r9 r10 =>
       K0 r4 r5 r6 r7 r8 r9 r10))) (gt_tutorref05_Minimise_6 g) (gt_tutorref05_Minimise_11 g) (fun r0 r1 r2 r3 r4 r5 r6 => K (.tup [.agg [.v (.int .i64 r0), .v (.int .i64 r1), .v (.int .i64 r2), .v (.int .i64 r3), .own 0, .own 1], .v (.int .i64 r4)]) [.row ⟨true, 3, (.int .i64), r5⟩, .row ⟨true, 3, (.int .i64), r6⟩]) s o0 o0_1 o0_2 o0_3 o0_4 o0_5 o1 o1_1 o1_2 o1_3 o2 o3 o4 o5 o5_1 o5_2 o5_3 o6 o7 := by kernel_rfl

theorem gstep_tutorref05_Minimise_11 (l_tutorref05_Classes : LT_tutorref05_Classes) (l_tutorref04_Canon : LT_tutorref04_Canon) {R : Type} (g : List Item → St → Option R) (K : AV → List O → Option R) (s x o0 o0_1 o0_2 o0_3 : Int) (o0_4 o0_5 : List Int) (o1 o1_1 o1_2 o1_3 : Int) (o2 o3 o4 : List Int) (o5 o5_1 o5_2 o5_3 : Int) (o6 o7 : List Int) :
    runSeg Tryd.prog (T_tutorref05_Minimise @l_tutorref05_Classes @l_tutorref04_Canon) cuts_tutorref05_Minimise 0 g (finish Tryd.prog Tryd.f27 0 K) (at' Tryd.f27 11) (sta_tutorref05_Minimise_11 s x o0 o0_1 o0_2 o0_3 o0_4 o0_5 o1 o1_1 o1_2 o1_3 o2 o3 o4 o5 o5_1 o5_2 o5_3 o6 o7) =
    (fun (g27_6 : GT_tutorref05_Minimise_6 R) (g27_11 : GT_tutorref05_Minimise_11 R) (K0 : Int → Int → Int → Int → Int → (List Int) → (List Int) → Option R) (s x o0 o0_1 o0_2 o0_3 : Int) (o0_4 o0_5 : List Int) (o1 o1_1 o1_2 o1_3 : Int) (o2 o3 o4 : List Int) (o5 o5_1 o5_2 o5_3 : Int) (o6 o7 : List Int) =>
    bi (decide (x < o0_1))
     (bi (decide (0 ≤ (IntKind.i64.wrap ((IntKind.i64.wrap (s * o0_1)) + x)) ∧ (IntKind.i64.wrap ((IntKind.i64.wrap (s * o0_1)) + x)) < ((o0_4.length : Nat) : Int)))
      (bi (decide (0 ≤ (o0_4.getD ((IntKind.i64.wrap ((IntKind.i64.wrap (s * o0_1)) + x)).toNat) 0) ∧ (o0_4.getD ((IntKind.i64.wrap ((IntKind.i64.wrap (s * o0_1)) + x)).toNat) 0) < ((o4.length : Nat) : Int)))
       (bi (decide ((o6.length + [o4.getD ((o0_4.getD ((IntKind.i64.wrap ((IntKind.i64.wrap (s * o0_1)) + x)).toNat) 0).toNat) 0].length) * 8 ≤ lim))
        (bi (o0 == 2)
         (bi (decide (0 ≤ (IntKind.i64.wrap ((IntKind.i64.wrap (s * o0_1)) + x)) ∧ (IntKind.i64.wrap ((IntKind.i64.wrap (s * o0_1)) + x)) < ((o0_5.length : Nat) : Int)))
          (bi (decide ((o7.length + [o0_5.getD ((IntKind.i64.wrap ((IntKind.i64.wrap (s * o0_1)) + x)).toNat) 0].length) * 8 ≤ lim))
           (g27_11 s (IntKind.i64.wrap (x + 1)) o0 o0_1 o0_2 o0_3 o0_4 o0_5 o1 o1_1 o1_2 o1_3 o2 o3 o4 o5 o5_1 o5_2 o5_3 (o6 ++ [o4.getD ((o0_4.getD ((IntKind.i64.wrap ((IntKind.i64.wrap (s * o0_1)) + x)).toNat) 0).toNat) 0]) (o7 ++ [o0_5.getD ((IntKind.i64.wrap ((IntKind.i64.wrap (s * o0_1)) + x)).toNat) 0]))
           none)
          none)
         (g27_11 s (IntKind.i64.wrap (x + 1)) o0 o0_1 o0_2 o0_3 o0_4 o0_5 o1 o1_1 o1_2 o1_3 o2 o3 o4 o5 o5_1 o5_2 o5_3 (o6 ++ [o4.getD ((o0_4.getD ((IntKind.i64.wrap ((IntKind.i64.wrap (s * o0_1)) + x)).toNat) 0).toNat) 0]) o7))
        none)
       none)
      none)
     (bi (o0 == 1)
      (bi (decide (0 ≤ s ∧ s < ((o0_5.length : Nat) : Int)))
       (bi (decide ((o7.length + [o0_5.getD s.toNat 0].length) * 8 ≤ lim))
        (g27_6 (IntKind.i64.wrap (s + 1)) o0 o0_1 o0_2 o0_3 o0_4 o0_5 o1 o1_1 o1_2 o1_3 o2 o3 o4 o5 o5_1 o5_2 o5_3 o6 (o7 ++ [o0_5.getD s.toNat 0]))
        none)
       none)
      (g27_6 (IntKind.i64.wrap (s + 1)) o0 o0_1 o0_2 o0_3 o0_4 o0_5 o1 o1_1 o1_2 o1_3 o2 o3 o4 o5 o5_1 o5_2 o5_3 o6 o7))) (gt_tutorref05_Minimise_6 g) (gt_tutorref05_Minimise_11 g) (fun r0 r1 r2 r3 r4 r5 r6 => K (.tup [.agg [.v (.int .i64 r0), .v (.int .i64 r1), .v (.int .i64 r2), .v (.int .i64 r3), .own 0, .own 1], .v (.int .i64 r4)]) [.row ⟨true, 3, (.int .i64), r5⟩, .row ⟨true, 3, (.int .i64), r6⟩]) s x o0 o0_1 o0_2 o0_3 o0_4 o0_5 o1 o1_1 o1_2 o1_3 o2 o3 o4 o5 o5_1 o5_2 o5_3 o6 o7 := by kernel_rfl

theorem gentry_tutorref05_Minimise (l_tutorref05_Classes : LT_tutorref05_Classes) (l_tutorref04_Canon : LT_tutorref04_Canon) {R : Type} (fuel : Nat) (K : AV → List O → Option R) (m m_1 m_2 m_3 : Int) (m_4 m_5 : List Int) :
    fnRun Tryd.prog (T_tutorref05_Minimise @l_tutorref05_Classes @l_tutorref04_Canon) cuts_tutorref05_Minimise Tryd.f27 fuel [.agg [.v (.int .i64 m), .v (.int .i64 m_1), .v (.int .i64 m_2), .v (.int .i64 m_3), .rd ⟨false, 3, (.int .i64), m_4⟩, .rd ⟨false, 3, (.int .i64), m_5⟩]] [] K =
    (fun (g27_6 : GT_tutorref05_Minimise_6 R) (g27_11 : GT_tutorref05_Minimise_11 R) (K0 : Int → Int → Int → Int → Int → (List Int) → (List Int) → Option R) (m m_1 m_2 m_3 : Int) (m_4 m_5 : List Int) =>
    l_tutorref05_Classes m m_1 m_2 m_3 m_4 m_5
     (fun r1 r2 r3 =>
      bi (r2 != 0)
       (K0 0 0 0 0 r2 ([] : List Int) ([] : List Int))
       (g27_6 0 m m_1 m_2 m_3 m_4 m_5 0 0 0 0 ([] : List Int) ([] : List Int) r3 m m_1 m_2 0 ([] : List Int) ([] : List Int)))) (gt_tutorref05_Minimise_6 (runO Tryd.prog (T_tutorref05_Minimise @l_tutorref05_Classes @l_tutorref04_Canon) cuts_tutorref05_Minimise 0 (finish Tryd.prog Tryd.f27 0 K) fuel)) (gt_tutorref05_Minimise_11 (runO Tryd.prog (T_tutorref05_Minimise @l_tutorref05_Classes @l_tutorref04_Canon) cuts_tutorref05_Minimise 0 (finish Tryd.prog Tryd.f27 0 K) fuel)) (fun r0 r1 r2 r3 r4 r5 r6 => K (.tup [.agg [.v (.int .i64 r0), .v (.int .i64 r1), .v (.int .i64 r2), .v (.int .i64 r3), .own 0, .own 1], .v (.int .i64 r4)]) [.row ⟨true, 3, (.int .i64), r5⟩, .row ⟨true, 3, (.int .i64), r6⟩]) m m_1 m_2 m_3 m_4 m_5 := by kernel_rfl

theorem runs_tutorref05_Minimise {R : Type} (K : AV → List O → Option R) : ∀ fuel : Nat,
    (gt_tutorref05_Minimise_6 (runO Tryd.prog (T_tutorref05_Minimise @l_tutorref05_Classes @l_tutorref04_Canon) cuts_tutorref05_Minimise 0 (finish Tryd.prog Tryd.f27 0 K) fuel)) = (run_tutorref05_Minimise (fun r0 r1 r2 r3 r4 r5 r6 => K (.tup [.agg [.v (.int .i64 r0), .v (.int .i64 r1), .v (.int .i64 r2), .v (.int .i64 r3), .own 0, .own 1], .v (.int .i64 r4)]) [.row ⟨true, 3, (.int .i64), r5⟩, .row ⟨true, 3, (.int .i64), r6⟩]) fuel).1 ∧
    (gt_tutorref05_Minimise_11 (runO Tryd.prog (T_tutorref05_Minimise @l_tutorref05_Classes @l_tutorref04_Canon) cuts_tutorref05_Minimise 0 (finish Tryd.prog Tryd.f27 0 K) fuel)) = (run_tutorref05_Minimise (fun r0 r1 r2 r3 r4 r5 r6 => K (.tup [.agg [.v (.int .i64 r0), .v (.int .i64 r1), .v (.int .i64 r2), .v (.int .i64 r3), .own 0, .own 1], .v (.int .i64 r4)]) [.row ⟨true, 3, (.int .i64), r5⟩, .row ⟨true, 3, (.int .i64), r6⟩]) fuel).2
  | 0 => ⟨rfl, rfl⟩
  | fuel + 1 => by
    have ih := runs_tutorref05_Minimise K fuel
    refine ⟨?_, ?_⟩
    · funext s o0 o0_1 o0_2 o0_3 o0_4 o0_5 o1 o1_1 o1_2 o1_3 o2 o3 o4 o5 o5_1 o5_2 o5_3 o6 o7
      refine (gstep_tutorref05_Minimise_6 @l_tutorref05_Classes @l_tutorref04_Canon _ K s o0 o0_1 o0_2 o0_3 o0_4 o0_5 o1 o1_1 o1_2 o1_3 o2 o3 o4 o5 o5_1 o5_2 o5_3 o6 o7).trans ?_
      rw [ih.1, ih.2]
      rfl
    · funext s x o0 o0_1 o0_2 o0_3 o0_4 o0_5 o1 o1_1 o1_2 o1_3 o2 o3 o4 o5 o5_1 o5_2 o5_3 o6 o7
      refine (gstep_tutorref05_Minimise_11 @l_tutorref05_Classes @l_tutorref04_Canon _ K s x o0 o0_1 o0_2 o0_3 o0_4 o0_5 o1 o1_1 o1_2 o1_3 o2 o3 o4 o5 o5_1 o5_2 o5_3 o6 o7).trans ?_
      rw [ih.1, ih.2]
      rfl

def S_tutorref05_Minimise (l_tutorref05_Minimise : LT_tutorref05_Minimise) : Sum := ⟨[], fun {R} args ob K => match args, ob with
  | [.agg [.v (.int .i64 m), .v (.int .i64 m_1), .v (.int .i64 m_2), .v (.int .i64 m_3), .rd ⟨false, 3, (.int .i64), m_4⟩, .rd ⟨false, 3, (.int .i64), m_5⟩]], [] => l_tutorref05_Minimise m m_1 m_2 m_3 m_4 m_5 (fun r0 r1 r2 r3 r4 r5 r6 => K (.tup [.agg [.v (.int .i64 r0), .v (.int .i64 r1), .v (.int .i64 r2), .v (.int .i64 r3), .own 0, .own 1], .v (.int .i64 r4)]) [.row ⟨true, 3, (.int .i64), r5⟩, .row ⟨true, 3, (.int .i64), r6⟩])
  | _, _ => none⟩

theorem sound_tutorref05_Minimise : Sound Tryd.prog 27 (S_tutorref05_Minimise @l_tutorref05_Minimise) := by
  refine fn_sound (cuts := cuts_tutorref05_Minimise) (fn := Tryd.f27) (Γ := (T_tutorref05_Minimise @l_tutorref05_Classes @l_tutorref04_Canon)) wide right_T_tutorref05_Minimise Tryd.func27 fun {R} K r args ob h => ?_
  unfold S_tutorref05_Minimise at h
  dsimp only at h
  split at h
  · obtain ⟨n, hn⟩ := ok_tutorref05_Minimise _ _ _ _ _ _ _ h
    refine ⟨Nat.le_of_ble_eq_true (by kernel_rfl), n, (gentry_tutorref05_Minimise @l_tutorref05_Classes @l_tutorref04_Canon n K _ _ _ _ _ _).trans ?_⟩
    rw [(runs_tutorref05_Minimise K n).1, (runs_tutorref05_Minimise K n).2]
    exact hn
  · cases h

theorem call_tutorref05_Minimise : Callable Tryd.prog 27 := ⟨_, Tryd.func27, by kernel_rfl, by kernel_rfl⟩

def T_tutorref08_Same : FuncId → Option Sum := G0

theorem right_T_tutorref08_Same : Right Tryd.prog T_tutorref08_Same := right_G0

abbrev cuts_tutorref08_Same : Cuts := []

theorem gentry_tutorref08_Same {R : Type} (K : AV → List O → Option R) (a b : List Int) :
    fnRun Tryd.prog T_tutorref08_Same cuts_tutorref08_Same Tryd.f16 0 [.rd ⟨false, 5, (.int .u8), a⟩, .rd ⟨false, 5, (.int .u8), b⟩] [] K =
    (fun (a b : List Int) (K0 : Bool → Option R) =>
    K0 ((ofBts a).toList == (ofBts b).toList)) a b (fun r0 => K (.v (.bool r0)) []) := by kernel_rfl

def S_tutorref08_Same (l_tutorref08_Same : LT_tutorref08_Same) : Sum := ⟨[], fun {R} args ob K => match args, ob with
  | [.rd ⟨false, 5, (.int .u8), a⟩, .rd ⟨false, 5, (.int .u8), b⟩], [] => l_tutorref08_Same a b (fun r0 => K (.v (.bool r0)) [])
  | _, _ => none⟩

theorem sound_tutorref08_Same : Sound Tryd.prog 16 (S_tutorref08_Same @l_tutorref08_Same) := by
  refine fn_sound (cuts := cuts_tutorref08_Same) (fn := Tryd.f16) (Γ := T_tutorref08_Same) wide right_T_tutorref08_Same Tryd.func16 fun {R} K r args ob h => ?_
  unfold S_tutorref08_Same at h
  dsimp only at h
  split at h
  · exact ⟨Nat.le_of_ble_eq_true (by kernel_rfl), 0, (gentry_tutorref08_Same K _ _).trans h⟩
  · cases h

theorem call_tutorref08_Same : Callable Tryd.prog 16 := ⟨_, Tryd.func16, by kernel_rfl, by kernel_rfl⟩

def T_tutorlaw08_TextOne (l_tutorlaw08_live : LT_tutorlaw08_live) (l_tutorref08_Same : LT_tutorref08_Same) (l_tutorlaw08_num : LT_tutorlaw08_num) (l_text_Export : LT_text_Export) (l_tutorref05_Minimise : LT_tutorref05_Minimise) (l_tutorref07_Separate : LT_tutorref07_Separate) (l_tutorref03_Big : LT_tutorref03_Big) : FuncId → Option Sum := (addS (addS (addS (addS (addS (addS (addS G0 12 (S_tutorlaw08_live @l_tutorlaw08_live)) 16 (S_tutorref08_Same @l_tutorref08_Same)) 17 (S_tutorlaw08_num @l_tutorlaw08_num)) 14 (S_text_Export @l_text_Export)) 27 (S_tutorref05_Minimise @l_tutorref05_Minimise)) 26 (S_tutorref07_Separate @l_tutorref07_Separate)) 11 (S_tutorref03_Big @l_tutorref03_Big))

theorem right_T_tutorlaw08_TextOne : Right Tryd.prog (T_tutorlaw08_TextOne @l_tutorlaw08_live @l_tutorref08_Same @l_tutorlaw08_num @l_text_Export @l_tutorref05_Minimise @l_tutorref07_Separate @l_tutorref03_Big) := (right_add (right_add (right_add (right_add (right_add (right_add (right_add right_G0 call_tutorlaw08_live sound_tutorlaw08_live) call_tutorref08_Same sound_tutorref08_Same) call_tutorlaw08_num sound_tutorlaw08_num) call_text_Export sound_text_Export) call_tutorref05_Minimise sound_tutorref05_Minimise) call_tutorref07_Separate sound_tutorref07_Separate) call_tutorref03_Big sound_tutorref03_Big)

abbrev cuts_tutorlaw08_TextOne : Cuts := []

theorem gentry_tutorlaw08_TextOne (l_tutorlaw08_live : LT_tutorlaw08_live) (l_tutorref08_Same : LT_tutorref08_Same) (l_tutorlaw08_num : LT_tutorlaw08_num) (l_text_Export : LT_text_Export) (l_tutorref05_Minimise : LT_tutorref05_Minimise) (l_tutorref07_Separate : LT_tutorref07_Separate) (l_tutorref03_Big : LT_tutorref03_Big) {R : Type} (K : AV → List O → Option R) (a a_1 a_2 a_3 : Int) (a_4 a_5 : List Int) (b b_1 b_2 b_3 : Int) (b_4 b_5 : List Int) :
    fnRun Tryd.prog (T_tutorlaw08_TextOne @l_tutorlaw08_live @l_tutorref08_Same @l_tutorlaw08_num @l_text_Export @l_tutorref05_Minimise @l_tutorref07_Separate @l_tutorref03_Big) cuts_tutorlaw08_TextOne Tryd.f8 0 [.agg [.v (.int .i64 a), .v (.int .i64 a_1), .v (.int .i64 a_2), .v (.int .i64 a_3), .rd ⟨false, 3, (.int .i64), a_4⟩, .rd ⟨false, 3, (.int .i64), a_5⟩], .agg [.v (.int .i64 b), .v (.int .i64 b_1), .v (.int .i64 b_2), .v (.int .i64 b_3), .rd ⟨false, 3, (.int .i64), b_4⟩, .rd ⟨false, 3, (.int .i64), b_5⟩]] [] K =
    (fun (a a_1 a_2 a_3 : Int) (a_4 a_5 : List Int) (b b_1 b_2 b_3 : Int) (b_4 b_5 : List Int) (K0 : Bool → Option R) =>
    l_tutorref03_Big a a_1 a_2 a_3 a_4 a_5 30
     (fun r1 =>
      bi r1
       (l_tutorlaw08_live
        (fun r2 =>
         K0 r2))
       (l_tutorref03_Big b b_1 b_2 b_3 b_4 b_5 30
        (fun r3 =>
         bi r3
          (l_tutorlaw08_live
           (fun r4 =>
            K0 r4))
          (l_tutorref07_Separate a a_1 a_2 a_3 a_4 a_5 b b_1 b_2 b_3 b_4 b_5
           (fun r5 r6 r7 =>
            bi (r6 != 0)
             (l_tutorlaw08_live
              (fun r8 =>
               K0 r8))
             (l_tutorref05_Minimise a a_1 a_2 a_3 a_4 a_5
              (fun r9 r10 r11 r12 r13 r14 r15 =>
               l_tutorref05_Minimise b b_1 b_2 b_3 b_4 b_5
                (fun r16 r17 r18 r19 r20 r21 r22 =>
                 l_text_Export r9 r10 r11 r12 r14 r15
                  (fun r23 r24 =>
                   l_text_Export r16 r17 r18 r19 r21 r22
                    (fun r25 r26 =>
                     l_tutorlaw08_num r23
                      (fun r27 =>
                       l_tutorlaw08_num r25
                        (fun r28 =>
                         bi ((IntKind.i64.wrap (r27 + r28)) == 0)
                          (l_tutorref08_Same r24 r26
                           (fun r29 =>
                            bi (r29 == (!r5))
                             (l_tutorlaw08_live
                              (fun r30 =>
                               K0 r30))
                             (K0 false)))
                          (K0 false)))))))))))))) a a_1 a_2 a_3 a_4 a_5 b b_1 b_2 b_3 b_4 b_5 (fun r0 => K (.v (.bool r0)) []) := by kernel_rfl

def S_tutorlaw08_TextOne (l_tutorlaw08_TextOne : LT_tutorlaw08_TextOne) : Sum := ⟨[], fun {R} args ob K => match args, ob with
  | [.agg [.v (.int .i64 a), .v (.int .i64 a_1), .v (.int .i64 a_2), .v (.int .i64 a_3), .rd ⟨false, 3, (.int .i64), a_4⟩, .rd ⟨false, 3, (.int .i64), a_5⟩], .agg [.v (.int .i64 b), .v (.int .i64 b_1), .v (.int .i64 b_2), .v (.int .i64 b_3), .rd ⟨false, 3, (.int .i64), b_4⟩, .rd ⟨false, 3, (.int .i64), b_5⟩]], [] => l_tutorlaw08_TextOne a a_1 a_2 a_3 a_4 a_5 b b_1 b_2 b_3 b_4 b_5 (fun r0 => K (.v (.bool r0)) [])
  | _, _ => none⟩

theorem sound_tutorlaw08_TextOne : Sound Tryd.prog 8 (S_tutorlaw08_TextOne @l_tutorlaw08_TextOne) := by
  refine fn_sound (cuts := cuts_tutorlaw08_TextOne) (fn := Tryd.f8) (Γ := (T_tutorlaw08_TextOne @l_tutorlaw08_live @l_tutorref08_Same @l_tutorlaw08_num @l_text_Export @l_tutorref05_Minimise @l_tutorref07_Separate @l_tutorref03_Big)) wide right_T_tutorlaw08_TextOne Tryd.func8 fun {R} K r args ob h => ?_
  unfold S_tutorlaw08_TextOne at h
  dsimp only at h
  split at h
  · exact ⟨Nat.le_of_ble_eq_true (by kernel_rfl), 0, (gentry_tutorlaw08_TextOne @l_tutorlaw08_live @l_tutorref08_Same @l_tutorlaw08_num @l_text_Export @l_tutorref05_Minimise @l_tutorref07_Separate @l_tutorref03_Big K _ _ _ _ _ _ _ _ _ _ _ _).trans h⟩
  · cases h

theorem call_tutorlaw08_TextOne : Callable Tryd.prog 8 := ⟨_, Tryd.func8, by kernel_rfl, by kernel_rfl⟩

end
end Go.Ev
