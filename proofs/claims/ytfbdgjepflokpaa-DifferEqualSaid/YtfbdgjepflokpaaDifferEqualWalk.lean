/- Each function of the program is its tree. -/
import Derived.Test.YtfbdgjepflokpaaProg
import Derived.Test.YtfbdgjepflokpaaEvFn
import Derived.Test.YtfbdgjepflokpaaDifferEqualWalkA
namespace Go.Ev
open Go.Proofs
noncomputable section
set_option linter.unusedVariables false
set_option linter.unusedSimpArgs false
set_option maxRecDepth 100000
set_option maxHeartbeats 4000000

theorem step_tutorref05_round_8 {R : Type} (g : List Item → St → Option R) (K : AV → List O → Option R) (apart : List (List Bool)) (first : Bool) (more : Bool) (s : Int) (t : Int) (o0 : Int) (o0_1 : Int) (o0_2 : Int) (o0_3 : Int) (o0_4 : List Int) (o0_5 : List Int) (o1 : List (List Bool)) (o2 : List Bool) :
    runSeg Try.prog (T_tutorref05_round @l_tutorref05_now) cuts_tutorref05_round 0 g (finish Try.prog Try.f35 0 K) (at' Try.f35 8) ⟨fr0 111 [(1, .rd ⟨false, 86, (.sl 4 .bool), apart⟩), (2, .v (.bool first)), (3, .ptr 0 0), (8, .nst 1), (9, .v (.bool more)), (10, .v (.int .i64 s)), (11, .own 2), (12, .v (.int .i64 t))], [.box 24 [.v (.int .i64 o0), .v (.int .i64 o0_1), .v (.int .i64 o0_2), .v (.int .i64 o0_3), .rd ⟨false, 3, (.int .i64), o0_4⟩, .rd ⟨false, 3, (.int .i64), o0_5⟩], .nst ⟨true, 86, (.sl 4 .bool), o1⟩, .row ⟨true, 4, .bool, o2⟩]⟩ =
    s_tutorref05_round_8 (fun apart first more s o0 o0_1 o0_2 o0_3 o0_4 o0_5 o1 => g (at' Try.f35 4) ⟨fr0 111 [(1, .rd ⟨false, 86, (.sl 4 .bool), apart⟩), (2, .v (.bool first)), (3, .ptr 0 0), (8, .nst 1), (9, .v (.bool more)), (10, .v (.int .i64 s))], [.box 24 [.v (.int .i64 o0), .v (.int .i64 o0_1), .v (.int .i64 o0_2), .v (.int .i64 o0_3), .rd ⟨false, 3, (.int .i64), o0_4⟩, .rd ⟨false, 3, (.int .i64), o0_5⟩], .nst ⟨true, 86, (.sl 4 .bool), o1⟩]⟩) (fun apart first more s t o0 o0_1 o0_2 o0_3 o0_4 o0_5 o1 o2 => g (at' Try.f35 8) ⟨fr0 111 [(1, .rd ⟨false, 86, (.sl 4 .bool), apart⟩), (2, .v (.bool first)), (3, .ptr 0 0), (8, .nst 1), (9, .v (.bool more)), (10, .v (.int .i64 s)), (11, .own 2), (12, .v (.int .i64 t))], [.box 24 [.v (.int .i64 o0), .v (.int .i64 o0_1), .v (.int .i64 o0_2), .v (.int .i64 o0_3), .rd ⟨false, 3, (.int .i64), o0_4⟩, .rd ⟨false, 3, (.int .i64), o0_5⟩], .nst ⟨true, 86, (.sl 4 .bool), o1⟩, .row ⟨true, 4, .bool, o2⟩]⟩) (fun apart first more s t x o0 o0_1 o0_2 o0_3 o0_4 o0_5 o1 o2 => g (at' Try.f35 12) ⟨fr0 111 [(1, .rd ⟨false, 86, (.sl 4 .bool), apart⟩), (2, .v (.bool first)), (3, .ptr 0 0), (8, .nst 1), (9, .v (.bool more)), (10, .v (.int .i64 s)), (11, .own 2), (12, .v (.int .i64 t)), (13, .v (.int .i64 x))], [.box 24 [.v (.int .i64 o0), .v (.int .i64 o0_1), .v (.int .i64 o0_2), .v (.int .i64 o0_3), .rd ⟨false, 3, (.int .i64), o0_4⟩, .rd ⟨false, 3, (.int .i64), o0_5⟩], .nst ⟨true, 86, (.sl 4 .bool), o1⟩, .row ⟨true, 4, .bool, o2⟩]⟩) (fun r0 r1 => K (.tup [.nst 0, .v (.bool r0)]) [.nst ⟨true, 86, (.sl 4 .bool), r1⟩]) apart first more s t o0 o0_1 o0_2 o0_3 o0_4 o0_5 o1 o2 := gstep_tutorref05_round_8 @l_tutorref05_now g K apart first more s t o0 o0_1 o0_2 o0_3 o0_4 o0_5 o1 o2

theorem gstep_tutorref05_round_12 (l_tutorref05_now : {R : Type} → Int → Int → Int → Int → (List Int) → (List Int) → Int → Int → (Bool → Option R) → Option R) {R : Type} (g : List Item → St → Option R) (K : AV → List O → Option R) (apart : List (List Bool)) (first : Bool) (more : Bool) (s : Int) (t : Int) (x : Int) (o0 : Int) (o0_1 : Int) (o0_2 : Int) (o0_3 : Int) (o0_4 : List Int) (o0_5 : List Int) (o1 : List (List Bool)) (o2 : List Bool) :
    runSeg Try.prog (T_tutorref05_round @l_tutorref05_now) cuts_tutorref05_round 0 g (finish Try.prog Try.f35 0 K) (at' Try.f35 12) ⟨fr0 111 [(1, .rd ⟨false, 86, (.sl 4 .bool), apart⟩), (2, .v (.bool first)), (3, .ptr 0 0), (8, .nst 1), (9, .v (.bool more)), (10, .v (.int .i64 s)), (11, .own 2), (12, .v (.int .i64 t)), (13, .v (.int .i64 x))], [.box 24 [.v (.int .i64 o0), .v (.int .i64 o0_1), .v (.int .i64 o0_2), .v (.int .i64 o0_3), .rd ⟨false, 3, (.int .i64), o0_4⟩, .rd ⟨false, 3, (.int .i64), o0_5⟩], .nst ⟨true, 86, (.sl 4 .bool), o1⟩, .row ⟨true, 4, .bool, o2⟩]⟩ =
    (fun (g35_4 : (List (List Bool)) → Bool → Bool → Int → Int → Int → Int → Int → (List Int) → (List Int) → (List (List Bool)) → Option R) (g35_8 : (List (List Bool)) → Bool → Bool → Int → Int → Int → Int → Int → Int → (List Int) → (List Int) → (List (List Bool)) → (List Bool) → Option R) (g35_12 : (List (List Bool)) → Bool → Bool → Int → Int → Int → Int → Int → Int → Int → (List Int) → (List Int) → (List (List Bool)) → (List Bool) → Option R) (K0 : Bool → (List (List Bool)) → Option R) (apart : List (List Bool)) (first : Bool) (more : Bool) (s : Int) (t : Int) (x : Int) (o0 : Int) (o0_1 : Int) (o0_2 : Int) (o0_3 : Int) (o0_4 : List Int) (o0_5 : List Int) (o1 : List (List Bool)) (o2 : List Bool) =>
    bi (decide (x < o0_1))
     (bi (decide (0 ≤ t ∧ t < ((o2.length : Nat) : Int)))
      (bi (!(o2.getD t.toNat false))
       (bi (decide (0 ≤ (IntKind.i64.wrap ((IntKind.i64.wrap (s * o0_1)) + x)) ∧ (IntKind.i64.wrap ((IntKind.i64.wrap (s * o0_1)) + x)) < ((o0_4.length : Nat) : Int)))
        (bi (decide (0 ≤ (o0_4.getD ((IntKind.i64.wrap ((IntKind.i64.wrap (s * o0_1)) + x)).toNat) 0) ∧ (o0_4.getD ((IntKind.i64.wrap ((IntKind.i64.wrap (s * o0_1)) + x)).toNat) 0) < ((apart.length : Nat) : Int)))
         (bi (decide (0 ≤ (IntKind.i64.wrap ((IntKind.i64.wrap (t * o0_1)) + x)) ∧ (IntKind.i64.wrap ((IntKind.i64.wrap (t * o0_1)) + x)) < ((o0_4.length : Nat) : Int)))
          (bi (decide (0 ≤ (o0_4.getD ((IntKind.i64.wrap ((IntKind.i64.wrap (t * o0_1)) + x)).toNat) 0) ∧ (o0_4.getD ((IntKind.i64.wrap ((IntKind.i64.wrap (t * o0_1)) + x)).toNat) 0) < (((apart.getD ((o0_4.getD ((IntKind.i64.wrap ((IntKind.i64.wrap (s * o0_1)) + x)).toNat) 0).toNat) []).length : Nat) : Int)))
           (bi (decide (0 ≤ t ∧ t < ((o2.length : Nat) : Int)))
            (g35_12 apart first more s t (IntKind.i64.wrap (x + 1)) o0 o0_1 o0_2 o0_3 o0_4 o0_5 o1 (o2.set t.toNat ((apart.getD ((o0_4.getD ((IntKind.i64.wrap ((IntKind.i64.wrap (s * o0_1)) + x)).toNat) 0).toNat) []).getD ((o0_4.getD ((IntKind.i64.wrap ((IntKind.i64.wrap (t * o0_1)) + x)).toNat) 0).toNat) false)))
            none)
           none)
          none)
         none)
        none)
       (bi more
        (g35_8 apart first true s (IntKind.i64.wrap (t + 1)) o0 o0_1 o0_2 o0_3 o0_4 o0_5 o1 o2)
        (bi (decide (0 ≤ t ∧ t < ((o2.length : Nat) : Int)))
         (bi (decide (0 ≤ s ∧ s < ((apart.length : Nat) : Int)))
          (bi (decide (0 ≤ t ∧ t < (((apart.getD s.toNat []).length : Nat) : Int)))
           (g35_8 apart first (!((o2.getD t.toNat false) == ((apart.getD s.toNat []).getD t.toNat false))) s (IntKind.i64.wrap (t + 1)) o0 o0_1 o0_2 o0_3 o0_4 o0_5 o1 o2)
           none)
          none)
         none)))
      none)
     (bi more
      (g35_8 apart first true s (IntKind.i64.wrap (t + 1)) o0 o0_1 o0_2 o0_3 o0_4 o0_5 o1 o2)
      (bi (decide (0 ≤ t ∧ t < ((o2.length : Nat) : Int)))
       (bi (decide (0 ≤ s ∧ s < ((apart.length : Nat) : Int)))
        (bi (decide (0 ≤ t ∧ t < (((apart.getD s.toNat []).length : Nat) : Int)))
         (g35_8 apart first (!((o2.getD t.toNat false) == ((apart.getD s.toNat []).getD t.toNat false))) s (IntKind.i64.wrap (t + 1)) o0 o0_1 o0_2 o0_3 o0_4 o0_5 o1 o2)
         none)
        none)
       none))) (fun apart first more s o0 o0_1 o0_2 o0_3 o0_4 o0_5 o1 => g (at' Try.f35 4) ⟨fr0 111 [(1, .rd ⟨false, 86, (.sl 4 .bool), apart⟩), (2, .v (.bool first)), (3, .ptr 0 0), (8, .nst 1), (9, .v (.bool more)), (10, .v (.int .i64 s))], [.box 24 [.v (.int .i64 o0), .v (.int .i64 o0_1), .v (.int .i64 o0_2), .v (.int .i64 o0_3), .rd ⟨false, 3, (.int .i64), o0_4⟩, .rd ⟨false, 3, (.int .i64), o0_5⟩], .nst ⟨true, 86, (.sl 4 .bool), o1⟩]⟩) (fun apart first more s t o0 o0_1 o0_2 o0_3 o0_4 o0_5 o1 o2 => g (at' Try.f35 8) ⟨fr0 111 [(1, .rd ⟨false, 86, (.sl 4 .bool), apart⟩), (2, .v (.bool first)), (3, .ptr 0 0), (8, .nst 1), (9, .v (.bool more)), (10, .v (.int .i64 s)), (11, .own 2), (12, .v (.int .i64 t))], [.box 24 [.v (.int .i64 o0), .v (.int .i64 o0_1), .v (.int .i64 o0_2), .v (.int .i64 o0_3), .rd ⟨false, 3, (.int .i64), o0_4⟩, .rd ⟨false, 3, (.int .i64), o0_5⟩], .nst ⟨true, 86, (.sl 4 .bool), o1⟩, .row ⟨true, 4, .bool, o2⟩]⟩) (fun apart first more s t x o0 o0_1 o0_2 o0_3 o0_4 o0_5 o1 o2 => g (at' Try.f35 12) ⟨fr0 111 [(1, .rd ⟨false, 86, (.sl 4 .bool), apart⟩), (2, .v (.bool first)), (3, .ptr 0 0), (8, .nst 1), (9, .v (.bool more)), (10, .v (.int .i64 s)), (11, .own 2), (12, .v (.int .i64 t)), (13, .v (.int .i64 x))], [.box 24 [.v (.int .i64 o0), .v (.int .i64 o0_1), .v (.int .i64 o0_2), .v (.int .i64 o0_3), .rd ⟨false, 3, (.int .i64), o0_4⟩, .rd ⟨false, 3, (.int .i64), o0_5⟩], .nst ⟨true, 86, (.sl 4 .bool), o1⟩, .row ⟨true, 4, .bool, o2⟩]⟩) (fun r0 r1 => K (.tup [.nst 0, .v (.bool r0)]) [.nst ⟨true, 86, (.sl 4 .bool), r1⟩]) apart first more s t x o0 o0_1 o0_2 o0_3 o0_4 o0_5 o1 o2 := by kernel_rfl

theorem step_tutorref05_round_12 {R : Type} (g : List Item → St → Option R) (K : AV → List O → Option R) (apart : List (List Bool)) (first : Bool) (more : Bool) (s : Int) (t : Int) (x : Int) (o0 : Int) (o0_1 : Int) (o0_2 : Int) (o0_3 : Int) (o0_4 : List Int) (o0_5 : List Int) (o1 : List (List Bool)) (o2 : List Bool) :
    runSeg Try.prog (T_tutorref05_round @l_tutorref05_now) cuts_tutorref05_round 0 g (finish Try.prog Try.f35 0 K) (at' Try.f35 12) ⟨fr0 111 [(1, .rd ⟨false, 86, (.sl 4 .bool), apart⟩), (2, .v (.bool first)), (3, .ptr 0 0), (8, .nst 1), (9, .v (.bool more)), (10, .v (.int .i64 s)), (11, .own 2), (12, .v (.int .i64 t)), (13, .v (.int .i64 x))], [.box 24 [.v (.int .i64 o0), .v (.int .i64 o0_1), .v (.int .i64 o0_2), .v (.int .i64 o0_3), .rd ⟨false, 3, (.int .i64), o0_4⟩, .rd ⟨false, 3, (.int .i64), o0_5⟩], .nst ⟨true, 86, (.sl 4 .bool), o1⟩, .row ⟨true, 4, .bool, o2⟩]⟩ =
    s_tutorref05_round_12 (fun apart first more s o0 o0_1 o0_2 o0_3 o0_4 o0_5 o1 => g (at' Try.f35 4) ⟨fr0 111 [(1, .rd ⟨false, 86, (.sl 4 .bool), apart⟩), (2, .v (.bool first)), (3, .ptr 0 0), (8, .nst 1), (9, .v (.bool more)), (10, .v (.int .i64 s))], [.box 24 [.v (.int .i64 o0), .v (.int .i64 o0_1), .v (.int .i64 o0_2), .v (.int .i64 o0_3), .rd ⟨false, 3, (.int .i64), o0_4⟩, .rd ⟨false, 3, (.int .i64), o0_5⟩], .nst ⟨true, 86, (.sl 4 .bool), o1⟩]⟩) (fun apart first more s t o0 o0_1 o0_2 o0_3 o0_4 o0_5 o1 o2 => g (at' Try.f35 8) ⟨fr0 111 [(1, .rd ⟨false, 86, (.sl 4 .bool), apart⟩), (2, .v (.bool first)), (3, .ptr 0 0), (8, .nst 1), (9, .v (.bool more)), (10, .v (.int .i64 s)), (11, .own 2), (12, .v (.int .i64 t))], [.box 24 [.v (.int .i64 o0), .v (.int .i64 o0_1), .v (.int .i64 o0_2), .v (.int .i64 o0_3), .rd ⟨false, 3, (.int .i64), o0_4⟩, .rd ⟨false, 3, (.int .i64), o0_5⟩], .nst ⟨true, 86, (.sl 4 .bool), o1⟩, .row ⟨true, 4, .bool, o2⟩]⟩) (fun apart first more s t x o0 o0_1 o0_2 o0_3 o0_4 o0_5 o1 o2 => g (at' Try.f35 12) ⟨fr0 111 [(1, .rd ⟨false, 86, (.sl 4 .bool), apart⟩), (2, .v (.bool first)), (3, .ptr 0 0), (8, .nst 1), (9, .v (.bool more)), (10, .v (.int .i64 s)), (11, .own 2), (12, .v (.int .i64 t)), (13, .v (.int .i64 x))], [.box 24 [.v (.int .i64 o0), .v (.int .i64 o0_1), .v (.int .i64 o0_2), .v (.int .i64 o0_3), .rd ⟨false, 3, (.int .i64), o0_4⟩, .rd ⟨false, 3, (.int .i64), o0_5⟩], .nst ⟨true, 86, (.sl 4 .bool), o1⟩, .row ⟨true, 4, .bool, o2⟩]⟩) (fun r0 r1 => K (.tup [.nst 0, .v (.bool r0)]) [.nst ⟨true, 86, (.sl 4 .bool), r1⟩]) apart first more s t x o0 o0_1 o0_2 o0_3 o0_4 o0_5 o1 o2 := gstep_tutorref05_round_12 @l_tutorref05_now g K apart first more s t x o0 o0_1 o0_2 o0_3 o0_4 o0_5 o1 o2

theorem gentry_tutorref05_round (l_tutorref05_now : {R : Type} → Int → Int → Int → Int → (List Int) → (List Int) → Int → Int → (Bool → Option R) → Option R) {R : Type} (fuel : Nat) (K : AV → List O → Option R) (m : Int) (m_1 : Int) (m_2 : Int) (m_3 : Int) (m_4 : List Int) (m_5 : List Int) (apart : List (List Bool)) (first : Bool) :
    fnRun Try.prog (T_tutorref05_round @l_tutorref05_now) cuts_tutorref05_round Try.f35 fuel [.agg [.v (.int .i64 m), .v (.int .i64 m_1), .v (.int .i64 m_2), .v (.int .i64 m_3), .rd ⟨false, 3, (.int .i64), m_4⟩, .rd ⟨false, 3, (.int .i64), m_5⟩], .rd ⟨false, 86, (.sl 4 .bool), apart⟩, .v (.bool first)] [] K =
    (fun (g35_4 : (List (List Bool)) → Bool → Bool → Int → Int → Int → Int → Int → (List Int) → (List Int) → (List (List Bool)) → Option R) (g35_8 : (List (List Bool)) → Bool → Bool → Int → Int → Int → Int → Int → Int → (List Int) → (List Int) → (List (List Bool)) → (List Bool) → Option R) (g35_12 : (List (List Bool)) → Bool → Bool → Int → Int → Int → Int → Int → Int → Int → (List Int) → (List Int) → (List (List Bool)) → (List Bool) → Option R) (K0 : Bool → (List (List Bool)) → Option R) (m : Int) (m_1 : Int) (m_2 : Int) (m_3 : Int) (m_4 : List Int) (m_5 : List Int) (apart : List (List Bool)) (first : Bool) =>
    g35_4 apart first false 0 m m_1 m_2 m_3 m_4 m_5 ([] : List (List Bool))) (fun apart first more s o0 o0_1 o0_2 o0_3 o0_4 o0_5 o1 => (runO Try.prog (T_tutorref05_round @l_tutorref05_now) cuts_tutorref05_round 0 (finish Try.prog Try.f35 0 K) fuel) (at' Try.f35 4) ⟨fr0 111 [(1, .rd ⟨false, 86, (.sl 4 .bool), apart⟩), (2, .v (.bool first)), (3, .ptr 0 0), (8, .nst 1), (9, .v (.bool more)), (10, .v (.int .i64 s))], [.box 24 [.v (.int .i64 o0), .v (.int .i64 o0_1), .v (.int .i64 o0_2), .v (.int .i64 o0_3), .rd ⟨false, 3, (.int .i64), o0_4⟩, .rd ⟨false, 3, (.int .i64), o0_5⟩], .nst ⟨true, 86, (.sl 4 .bool), o1⟩]⟩) (fun apart first more s t o0 o0_1 o0_2 o0_3 o0_4 o0_5 o1 o2 => (runO Try.prog (T_tutorref05_round @l_tutorref05_now) cuts_tutorref05_round 0 (finish Try.prog Try.f35 0 K) fuel) (at' Try.f35 8) ⟨fr0 111 [(1, .rd ⟨false, 86, (.sl 4 .bool), apart⟩), (2, .v (.bool first)), (3, .ptr 0 0), (8, .nst 1), (9, .v (.bool more)), (10, .v (.int .i64 s)), (11, .own 2), (12, .v (.int .i64 t))], [.box 24 [.v (.int .i64 o0), .v (.int .i64 o0_1), .v (.int .i64 o0_2), .v (.int .i64 o0_3), .rd ⟨false, 3, (.int .i64), o0_4⟩, .rd ⟨false, 3, (.int .i64), o0_5⟩], .nst ⟨true, 86, (.sl 4 .bool), o1⟩, .row ⟨true, 4, .bool, o2⟩]⟩) (fun apart first more s t x o0 o0_1 o0_2 o0_3 o0_4 o0_5 o1 o2 => (runO Try.prog (T_tutorref05_round @l_tutorref05_now) cuts_tutorref05_round 0 (finish Try.prog Try.f35 0 K) fuel) (at' Try.f35 12) ⟨fr0 111 [(1, .rd ⟨false, 86, (.sl 4 .bool), apart⟩), (2, .v (.bool first)), (3, .ptr 0 0), (8, .nst 1), (9, .v (.bool more)), (10, .v (.int .i64 s)), (11, .own 2), (12, .v (.int .i64 t)), (13, .v (.int .i64 x))], [.box 24 [.v (.int .i64 o0), .v (.int .i64 o0_1), .v (.int .i64 o0_2), .v (.int .i64 o0_3), .rd ⟨false, 3, (.int .i64), o0_4⟩, .rd ⟨false, 3, (.int .i64), o0_5⟩], .nst ⟨true, 86, (.sl 4 .bool), o1⟩, .row ⟨true, 4, .bool, o2⟩]⟩) (fun r0 r1 => K (.tup [.nst 0, .v (.bool r0)]) [.nst ⟨true, 86, (.sl 4 .bool), r1⟩]) m m_1 m_2 m_3 m_4 m_5 apart first := by kernel_rfl

theorem entry_tutorref05_round {R : Type} (fuel : Nat) (K : AV → List O → Option R) (m : Int) (m_1 : Int) (m_2 : Int) (m_3 : Int) (m_4 : List Int) (m_5 : List Int) (apart : List (List Bool)) (first : Bool) :
    fnRun Try.prog (T_tutorref05_round @l_tutorref05_now) cuts_tutorref05_round Try.f35 fuel [.agg [.v (.int .i64 m), .v (.int .i64 m_1), .v (.int .i64 m_2), .v (.int .i64 m_3), .rd ⟨false, 3, (.int .i64), m_4⟩, .rd ⟨false, 3, (.int .i64), m_5⟩], .rd ⟨false, 86, (.sl 4 .bool), apart⟩, .v (.bool first)] [] K =
    e_tutorref05_round (fun apart first more s o0 o0_1 o0_2 o0_3 o0_4 o0_5 o1 => (runO Try.prog (T_tutorref05_round @l_tutorref05_now) cuts_tutorref05_round 0 (finish Try.prog Try.f35 0 K) fuel) (at' Try.f35 4) ⟨fr0 111 [(1, .rd ⟨false, 86, (.sl 4 .bool), apart⟩), (2, .v (.bool first)), (3, .ptr 0 0), (8, .nst 1), (9, .v (.bool more)), (10, .v (.int .i64 s))], [.box 24 [.v (.int .i64 o0), .v (.int .i64 o0_1), .v (.int .i64 o0_2), .v (.int .i64 o0_3), .rd ⟨false, 3, (.int .i64), o0_4⟩, .rd ⟨false, 3, (.int .i64), o0_5⟩], .nst ⟨true, 86, (.sl 4 .bool), o1⟩]⟩) (fun apart first more s t o0 o0_1 o0_2 o0_3 o0_4 o0_5 o1 o2 => (runO Try.prog (T_tutorref05_round @l_tutorref05_now) cuts_tutorref05_round 0 (finish Try.prog Try.f35 0 K) fuel) (at' Try.f35 8) ⟨fr0 111 [(1, .rd ⟨false, 86, (.sl 4 .bool), apart⟩), (2, .v (.bool first)), (3, .ptr 0 0), (8, .nst 1), (9, .v (.bool more)), (10, .v (.int .i64 s)), (11, .own 2), (12, .v (.int .i64 t))], [.box 24 [.v (.int .i64 o0), .v (.int .i64 o0_1), .v (.int .i64 o0_2), .v (.int .i64 o0_3), .rd ⟨false, 3, (.int .i64), o0_4⟩, .rd ⟨false, 3, (.int .i64), o0_5⟩], .nst ⟨true, 86, (.sl 4 .bool), o1⟩, .row ⟨true, 4, .bool, o2⟩]⟩) (fun apart first more s t x o0 o0_1 o0_2 o0_3 o0_4 o0_5 o1 o2 => (runO Try.prog (T_tutorref05_round @l_tutorref05_now) cuts_tutorref05_round 0 (finish Try.prog Try.f35 0 K) fuel) (at' Try.f35 12) ⟨fr0 111 [(1, .rd ⟨false, 86, (.sl 4 .bool), apart⟩), (2, .v (.bool first)), (3, .ptr 0 0), (8, .nst 1), (9, .v (.bool more)), (10, .v (.int .i64 s)), (11, .own 2), (12, .v (.int .i64 t)), (13, .v (.int .i64 x))], [.box 24 [.v (.int .i64 o0), .v (.int .i64 o0_1), .v (.int .i64 o0_2), .v (.int .i64 o0_3), .rd ⟨false, 3, (.int .i64), o0_4⟩, .rd ⟨false, 3, (.int .i64), o0_5⟩], .nst ⟨true, 86, (.sl 4 .bool), o1⟩, .row ⟨true, 4, .bool, o2⟩]⟩) (fun r0 r1 => K (.tup [.nst 0, .v (.bool r0)]) [.nst ⟨true, 86, (.sl 4 .bool), r1⟩]) m m_1 m_2 m_3 m_4 m_5 apart first := gentry_tutorref05_round @l_tutorref05_now fuel K m m_1 m_2 m_3 m_4 m_5 apart first

theorem runs_tutorref05_round {R : Type} (K : AV → List O → Option R) : ∀ fuel : Nat,
    (fun apart first more s o0 o0_1 o0_2 o0_3 o0_4 o0_5 o1 => (runO Try.prog (T_tutorref05_round @l_tutorref05_now) cuts_tutorref05_round 0 (finish Try.prog Try.f35 0 K) fuel) (at' Try.f35 4) ⟨fr0 111 [(1, .rd ⟨false, 86, (.sl 4 .bool), apart⟩), (2, .v (.bool first)), (3, .ptr 0 0), (8, .nst 1), (9, .v (.bool more)), (10, .v (.int .i64 s))], [.box 24 [.v (.int .i64 o0), .v (.int .i64 o0_1), .v (.int .i64 o0_2), .v (.int .i64 o0_3), .rd ⟨false, 3, (.int .i64), o0_4⟩, .rd ⟨false, 3, (.int .i64), o0_5⟩], .nst ⟨true, 86, (.sl 4 .bool), o1⟩]⟩) = (run_tutorref05_round (fun r0 r1 => K (.tup [.nst 0, .v (.bool r0)]) [.nst ⟨true, 86, (.sl 4 .bool), r1⟩]) fuel).1 ∧
    (fun apart first more s t o0 o0_1 o0_2 o0_3 o0_4 o0_5 o1 o2 => (runO Try.prog (T_tutorref05_round @l_tutorref05_now) cuts_tutorref05_round 0 (finish Try.prog Try.f35 0 K) fuel) (at' Try.f35 8) ⟨fr0 111 [(1, .rd ⟨false, 86, (.sl 4 .bool), apart⟩), (2, .v (.bool first)), (3, .ptr 0 0), (8, .nst 1), (9, .v (.bool more)), (10, .v (.int .i64 s)), (11, .own 2), (12, .v (.int .i64 t))], [.box 24 [.v (.int .i64 o0), .v (.int .i64 o0_1), .v (.int .i64 o0_2), .v (.int .i64 o0_3), .rd ⟨false, 3, (.int .i64), o0_4⟩, .rd ⟨false, 3, (.int .i64), o0_5⟩], .nst ⟨true, 86, (.sl 4 .bool), o1⟩, .row ⟨true, 4, .bool, o2⟩]⟩) = (run_tutorref05_round (fun r0 r1 => K (.tup [.nst 0, .v (.bool r0)]) [.nst ⟨true, 86, (.sl 4 .bool), r1⟩]) fuel).2.1 ∧
    (fun apart first more s t x o0 o0_1 o0_2 o0_3 o0_4 o0_5 o1 o2 => (runO Try.prog (T_tutorref05_round @l_tutorref05_now) cuts_tutorref05_round 0 (finish Try.prog Try.f35 0 K) fuel) (at' Try.f35 12) ⟨fr0 111 [(1, .rd ⟨false, 86, (.sl 4 .bool), apart⟩), (2, .v (.bool first)), (3, .ptr 0 0), (8, .nst 1), (9, .v (.bool more)), (10, .v (.int .i64 s)), (11, .own 2), (12, .v (.int .i64 t)), (13, .v (.int .i64 x))], [.box 24 [.v (.int .i64 o0), .v (.int .i64 o0_1), .v (.int .i64 o0_2), .v (.int .i64 o0_3), .rd ⟨false, 3, (.int .i64), o0_4⟩, .rd ⟨false, 3, (.int .i64), o0_5⟩], .nst ⟨true, 86, (.sl 4 .bool), o1⟩, .row ⟨true, 4, .bool, o2⟩]⟩) = (run_tutorref05_round (fun r0 r1 => K (.tup [.nst 0, .v (.bool r0)]) [.nst ⟨true, 86, (.sl 4 .bool), r1⟩]) fuel).2.2
  | 0 => ⟨rfl, rfl, rfl⟩
  | fuel + 1 => by
    have ih := runs_tutorref05_round K fuel
    refine ⟨?_, ?_, ?_⟩
    · funext apart first more s o0 o0_1 o0_2 o0_3 o0_4 o0_5 o1
      refine (step_tutorref05_round_4 _ K apart first more s o0 o0_1 o0_2 o0_3 o0_4 o0_5 o1).trans ?_
      rw [ih.1, ih.2.1, ih.2.2]
      rfl
    · funext apart first more s t o0 o0_1 o0_2 o0_3 o0_4 o0_5 o1 o2
      refine (step_tutorref05_round_8 _ K apart first more s t o0 o0_1 o0_2 o0_3 o0_4 o0_5 o1 o2).trans ?_
      rw [ih.1, ih.2.1, ih.2.2]
      rfl
    · funext apart first more s t x o0 o0_1 o0_2 o0_3 o0_4 o0_5 o1 o2
      refine (step_tutorref05_round_12 _ K apart first more s t x o0 o0_1 o0_2 o0_3 o0_4 o0_5 o1 o2).trans ?_
      rw [ih.1, ih.2.1, ih.2.2]
      rfl

def S_tutorref05_round (l_tutorref05_round : {R : Type} → Int → Int → Int → Int → (List Int) → (List Int) → (List (List Bool)) → Bool → (Bool → (List (List Bool)) → Option R) → Option R) : Sum := ⟨[], fun {R} args ob K => match args, ob with
  | [.agg [.v (.int .i64 m), .v (.int .i64 m_1), .v (.int .i64 m_2), .v (.int .i64 m_3), .rd ⟨false, 3, (.int .i64), m_4⟩, .rd ⟨false, 3, (.int .i64), m_5⟩], .rd ⟨false, 86, (.sl 4 .bool), apart⟩, .v (.bool first)], [] => l_tutorref05_round m m_1 m_2 m_3 m_4 m_5 apart first (fun r0 r1 => K (.tup [.nst 0, .v (.bool r0)]) [.nst ⟨true, 86, (.sl 4 .bool), r1⟩])
  | _, _ => none⟩

theorem sound_tutorref05_round : Sound Try.prog 35 (S_tutorref05_round @l_tutorref05_round) := by
  refine fn_sound (cuts := cuts_tutorref05_round) (fn := Try.f35) (Γ := (T_tutorref05_round @l_tutorref05_now)) wide right_T_tutorref05_round Try.func35 fun {R} K r args ob h => ?_
  unfold S_tutorref05_round at h
  dsimp only at h
  split at h
  · obtain ⟨n, hn⟩ := ok_tutorref05_round _ _ _ _ _ _ _ _ _ h
    refine ⟨Nat.le_of_ble_eq_true (by kernel_rfl), n, (entry_tutorref05_round n K _ _ _ _ _ _ _ _).trans ?_⟩
    rw [(runs_tutorref05_round K n).1, (runs_tutorref05_round K n).2.1, (runs_tutorref05_round K n).2.2]
    exact hn
  · cases h

theorem call_tutorref05_round : Callable Try.prog 35 := ⟨_, Try.func35, by kernel_rfl, by kernel_rfl⟩

def T_tutorref05_classes : FuncId → Option Sum := G0

theorem right_T_tutorref05_classes : Right Try.prog T_tutorref05_classes := right_G0

abbrev cuts_tutorref05_classes : Cuts := [(4, [0, 3, 4, 5]), (8, [0, 3, 4, 5, 6, 7])]

theorem gstep_tutorref05_classes_4 {R : Type} (g : List Item → St → Option R) (K : AV → List O → Option R) (apart : List (List Bool)) (n : Int) (s : Int) (o0 : List Int) :
    runSeg Try.prog T_tutorref05_classes cuts_tutorref05_classes 0 g (finish Try.prog Try.f36 0 K) (at' Try.f36 4) ⟨fr0 45 [(0, .rd ⟨false, 86, (.sl 4 .bool), apart⟩), (3, .own 0), (4, .v (.int .i64 n)), (5, .v (.int .i64 s))], [.row ⟨true, 3, (.int .i64), o0⟩]⟩ =
    (fun (g36_4 : (List (List Bool)) → Int → Int → (List Int) → Option R) (g36_8 : (List (List Bool)) → Int → Int → Int → Int → (List Int) → Option R) (K0 : (List Int) → Option R) (apart : List (List Bool)) (n : Int) (s : Int) (o0 : List Int) =>
    bi (decide (s < (apart.length : Int)))
     (g36_8 apart n s (-1) 0 o0)
     (K0 o0)) (fun apart n s o0 => g (at' Try.f36 4) ⟨fr0 45 [(0, .rd ⟨false, 86, (.sl 4 .bool), apart⟩), (3, .own 0), (4, .v (.int .i64 n)), (5, .v (.int .i64 s))], [.row ⟨true, 3, (.int .i64), o0⟩]⟩) (fun apart n s c t o0 => g (at' Try.f36 8) ⟨fr0 45 [(0, .rd ⟨false, 86, (.sl 4 .bool), apart⟩), (3, .own 0), (4, .v (.int .i64 n)), (5, .v (.int .i64 s)), (6, .v (.int .i64 c)), (7, .v (.int .i64 t))], [.row ⟨true, 3, (.int .i64), o0⟩]⟩) (fun r0 => K (.own 0) [.row ⟨true, 3, (.int .i64), r0⟩]) apart n s o0 := by kernel_rfl

theorem step_tutorref05_classes_4 {R : Type} (g : List Item → St → Option R) (K : AV → List O → Option R) (apart : List (List Bool)) (n : Int) (s : Int) (o0 : List Int) :
    runSeg Try.prog T_tutorref05_classes cuts_tutorref05_classes 0 g (finish Try.prog Try.f36 0 K) (at' Try.f36 4) ⟨fr0 45 [(0, .rd ⟨false, 86, (.sl 4 .bool), apart⟩), (3, .own 0), (4, .v (.int .i64 n)), (5, .v (.int .i64 s))], [.row ⟨true, 3, (.int .i64), o0⟩]⟩ =
    s_tutorref05_classes_4 (fun apart n s o0 => g (at' Try.f36 4) ⟨fr0 45 [(0, .rd ⟨false, 86, (.sl 4 .bool), apart⟩), (3, .own 0), (4, .v (.int .i64 n)), (5, .v (.int .i64 s))], [.row ⟨true, 3, (.int .i64), o0⟩]⟩) (fun apart n s c t o0 => g (at' Try.f36 8) ⟨fr0 45 [(0, .rd ⟨false, 86, (.sl 4 .bool), apart⟩), (3, .own 0), (4, .v (.int .i64 n)), (5, .v (.int .i64 s)), (6, .v (.int .i64 c)), (7, .v (.int .i64 t))], [.row ⟨true, 3, (.int .i64), o0⟩]⟩) (fun r0 => K (.own 0) [.row ⟨true, 3, (.int .i64), r0⟩]) apart n s o0 := gstep_tutorref05_classes_4 g K apart n s o0

theorem gstep_tutorref05_classes_8 {R : Type} (g : List Item → St → Option R) (K : AV → List O → Option R) (apart : List (List Bool)) (n : Int) (s : Int) (c : Int) (t : Int) (o0 : List Int) :
    runSeg Try.prog T_tutorref05_classes cuts_tutorref05_classes 0 g (finish Try.prog Try.f36 0 K) (at' Try.f36 8) ⟨fr0 45 [(0, .rd ⟨false, 86, (.sl 4 .bool), apart⟩), (3, .own 0), (4, .v (.int .i64 n)), (5, .v (.int .i64 s)), (6, .v (.int .i64 c)), (7, .v (.int .i64 t))], [.row ⟨true, 3, (.int .i64), o0⟩]⟩ =
    (fun (g36_4 : (List (List Bool)) → Int → Int → (List Int) → Option R) (g36_8 : (List (List Bool)) → Int → Int → Int → Int → (List Int) → Option R) (K0 : (List Int) → Option R) (apart : List (List Bool)) (n : Int) (s : Int) (c : Int) (t : Int) (o0 : List Int) =>
    bi (decide (t < s))
     (bi (decide (c < 0))
      (bi (decide (0 ≤ s ∧ s < ((apart.length : Nat) : Int)))
       (bi (decide (0 ≤ t ∧ t < (((apart.getD s.toNat []).length : Nat) : Int)))
        (bi (!((apart.getD s.toNat []).getD t.toNat false))
         (bi (decide (0 ≤ t ∧ t < ((o0.length : Nat) : Int)))
          (g36_8 apart n s (o0.getD t.toNat 0) (IntKind.i64.wrap (t + 1)) o0)
          none)
         (g36_8 apart n s c (IntKind.i64.wrap (t + 1)) o0))
        none)
       none)
      (bi (decide (c < 0))
       (bi (decide ((o0.length + [n].length) * 8 ≤ lim))
        (g36_4 apart (IntKind.i64.wrap (n + 1)) (IntKind.i64.wrap (s + 1)) (o0 ++ [n]))
        none)
       (bi (decide ((o0.length + [c].length) * 8 ≤ lim))
        (g36_4 apart n (IntKind.i64.wrap (s + 1)) (o0 ++ [c]))
        none)))
     (bi (decide (c < 0))
      (bi (decide ((o0.length + [n].length) * 8 ≤ lim))
       (g36_4 apart (IntKind.i64.wrap (n + 1)) (IntKind.i64.wrap (s + 1)) (o0 ++ [n]))
       none)
      (bi (decide ((o0.length + [c].length) * 8 ≤ lim))
       (g36_4 apart n (IntKind.i64.wrap (s + 1)) (o0 ++ [c]))
       none))) (fun apart n s o0 => g (at' Try.f36 4) ⟨fr0 45 [(0, .rd ⟨false, 86, (.sl 4 .bool), apart⟩), (3, .own 0), (4, .v (.int .i64 n)), (5, .v (.int .i64 s))], [.row ⟨true, 3, (.int .i64), o0⟩]⟩) (fun apart n s c t o0 => g (at' Try.f36 8) ⟨fr0 45 [(0, .rd ⟨false, 86, (.sl 4 .bool), apart⟩), (3, .own 0), (4, .v (.int .i64 n)), (5, .v (.int .i64 s)), (6, .v (.int .i64 c)), (7, .v (.int .i64 t))], [.row ⟨true, 3, (.int .i64), o0⟩]⟩) (fun r0 => K (.own 0) [.row ⟨true, 3, (.int .i64), r0⟩]) apart n s c t o0 := by kernel_rfl

theorem step_tutorref05_classes_8 {R : Type} (g : List Item → St → Option R) (K : AV → List O → Option R) (apart : List (List Bool)) (n : Int) (s : Int) (c : Int) (t : Int) (o0 : List Int) :
    runSeg Try.prog T_tutorref05_classes cuts_tutorref05_classes 0 g (finish Try.prog Try.f36 0 K) (at' Try.f36 8) ⟨fr0 45 [(0, .rd ⟨false, 86, (.sl 4 .bool), apart⟩), (3, .own 0), (4, .v (.int .i64 n)), (5, .v (.int .i64 s)), (6, .v (.int .i64 c)), (7, .v (.int .i64 t))], [.row ⟨true, 3, (.int .i64), o0⟩]⟩ =
    s_tutorref05_classes_8 (fun apart n s o0 => g (at' Try.f36 4) ⟨fr0 45 [(0, .rd ⟨false, 86, (.sl 4 .bool), apart⟩), (3, .own 0), (4, .v (.int .i64 n)), (5, .v (.int .i64 s))], [.row ⟨true, 3, (.int .i64), o0⟩]⟩) (fun apart n s c t o0 => g (at' Try.f36 8) ⟨fr0 45 [(0, .rd ⟨false, 86, (.sl 4 .bool), apart⟩), (3, .own 0), (4, .v (.int .i64 n)), (5, .v (.int .i64 s)), (6, .v (.int .i64 c)), (7, .v (.int .i64 t))], [.row ⟨true, 3, (.int .i64), o0⟩]⟩) (fun r0 => K (.own 0) [.row ⟨true, 3, (.int .i64), r0⟩]) apart n s c t o0 := gstep_tutorref05_classes_8 g K apart n s c t o0

theorem gentry_tutorref05_classes {R : Type} (fuel : Nat) (K : AV → List O → Option R) (apart : List (List Bool)) :
    fnRun Try.prog T_tutorref05_classes cuts_tutorref05_classes Try.f36 fuel [.rd ⟨false, 86, (.sl 4 .bool), apart⟩] [] K =
    (fun (g36_4 : (List (List Bool)) → Int → Int → (List Int) → Option R) (g36_8 : (List (List Bool)) → Int → Int → Int → Int → (List Int) → Option R) (K0 : (List Int) → Option R) (apart : List (List Bool)) =>
    g36_4 apart 0 0 ([] : List Int)) (fun apart n s o0 => (runO Try.prog T_tutorref05_classes cuts_tutorref05_classes 0 (finish Try.prog Try.f36 0 K) fuel) (at' Try.f36 4) ⟨fr0 45 [(0, .rd ⟨false, 86, (.sl 4 .bool), apart⟩), (3, .own 0), (4, .v (.int .i64 n)), (5, .v (.int .i64 s))], [.row ⟨true, 3, (.int .i64), o0⟩]⟩) (fun apart n s c t o0 => (runO Try.prog T_tutorref05_classes cuts_tutorref05_classes 0 (finish Try.prog Try.f36 0 K) fuel) (at' Try.f36 8) ⟨fr0 45 [(0, .rd ⟨false, 86, (.sl 4 .bool), apart⟩), (3, .own 0), (4, .v (.int .i64 n)), (5, .v (.int .i64 s)), (6, .v (.int .i64 c)), (7, .v (.int .i64 t))], [.row ⟨true, 3, (.int .i64), o0⟩]⟩) (fun r0 => K (.own 0) [.row ⟨true, 3, (.int .i64), r0⟩]) apart := by kernel_rfl

theorem entry_tutorref05_classes {R : Type} (fuel : Nat) (K : AV → List O → Option R) (apart : List (List Bool)) :
    fnRun Try.prog T_tutorref05_classes cuts_tutorref05_classes Try.f36 fuel [.rd ⟨false, 86, (.sl 4 .bool), apart⟩] [] K =
    e_tutorref05_classes (fun apart n s o0 => (runO Try.prog T_tutorref05_classes cuts_tutorref05_classes 0 (finish Try.prog Try.f36 0 K) fuel) (at' Try.f36 4) ⟨fr0 45 [(0, .rd ⟨false, 86, (.sl 4 .bool), apart⟩), (3, .own 0), (4, .v (.int .i64 n)), (5, .v (.int .i64 s))], [.row ⟨true, 3, (.int .i64), o0⟩]⟩) (fun apart n s c t o0 => (runO Try.prog T_tutorref05_classes cuts_tutorref05_classes 0 (finish Try.prog Try.f36 0 K) fuel) (at' Try.f36 8) ⟨fr0 45 [(0, .rd ⟨false, 86, (.sl 4 .bool), apart⟩), (3, .own 0), (4, .v (.int .i64 n)), (5, .v (.int .i64 s)), (6, .v (.int .i64 c)), (7, .v (.int .i64 t))], [.row ⟨true, 3, (.int .i64), o0⟩]⟩) (fun r0 => K (.own 0) [.row ⟨true, 3, (.int .i64), r0⟩]) apart := gentry_tutorref05_classes fuel K apart

theorem runs_tutorref05_classes {R : Type} (K : AV → List O → Option R) : ∀ fuel : Nat,
    (fun apart n s o0 => (runO Try.prog T_tutorref05_classes cuts_tutorref05_classes 0 (finish Try.prog Try.f36 0 K) fuel) (at' Try.f36 4) ⟨fr0 45 [(0, .rd ⟨false, 86, (.sl 4 .bool), apart⟩), (3, .own 0), (4, .v (.int .i64 n)), (5, .v (.int .i64 s))], [.row ⟨true, 3, (.int .i64), o0⟩]⟩) = (run_tutorref05_classes (fun r0 => K (.own 0) [.row ⟨true, 3, (.int .i64), r0⟩]) fuel).1 ∧
    (fun apart n s c t o0 => (runO Try.prog T_tutorref05_classes cuts_tutorref05_classes 0 (finish Try.prog Try.f36 0 K) fuel) (at' Try.f36 8) ⟨fr0 45 [(0, .rd ⟨false, 86, (.sl 4 .bool), apart⟩), (3, .own 0), (4, .v (.int .i64 n)), (5, .v (.int .i64 s)), (6, .v (.int .i64 c)), (7, .v (.int .i64 t))], [.row ⟨true, 3, (.int .i64), o0⟩]⟩) = (run_tutorref05_classes (fun r0 => K (.own 0) [.row ⟨true, 3, (.int .i64), r0⟩]) fuel).2
  | 0 => ⟨rfl, rfl⟩
  | fuel + 1 => by
    have ih := runs_tutorref05_classes K fuel
    refine ⟨?_, ?_⟩
    · funext apart n s o0
      refine (step_tutorref05_classes_4 _ K apart n s o0).trans ?_
      rw [ih.1, ih.2]
      rfl
    · funext apart n s c t o0
      refine (step_tutorref05_classes_8 _ K apart n s c t o0).trans ?_
      rw [ih.1, ih.2]
      rfl

def S_tutorref05_classes (l_tutorref05_classes : {R : Type} → (List (List Bool)) → ((List Int) → Option R) → Option R) : Sum := ⟨[], fun {R} args ob K => match args, ob with
  | [.rd ⟨false, 86, (.sl 4 .bool), apart⟩], [] => l_tutorref05_classes apart (fun r0 => K (.own 0) [.row ⟨true, 3, (.int .i64), r0⟩])
  | _, _ => none⟩

theorem sound_tutorref05_classes : Sound Try.prog 36 (S_tutorref05_classes @l_tutorref05_classes) := by
  refine fn_sound (cuts := cuts_tutorref05_classes) (fn := Try.f36) (Γ := T_tutorref05_classes) wide right_T_tutorref05_classes Try.func36 fun {R} K r args ob h => ?_
  unfold S_tutorref05_classes at h
  dsimp only at h
  split at h
  · obtain ⟨n, hn⟩ := ok_tutorref05_classes _ _ h
    refine ⟨Nat.le_of_ble_eq_true (by kernel_rfl), n, (entry_tutorref05_classes n K _).trans ?_⟩
    rw [(runs_tutorref05_classes K n).1, (runs_tutorref05_classes K n).2]
    exact hn
  · cases h

theorem call_tutorref05_classes : Callable Try.prog 36 := ⟨_, Try.func36, by kernel_rfl, by kernel_rfl⟩

def T_tutorref05_Classes (l_tutorref05_start : {R : Type} → Int → Int → Int → Int → (List Int) → (List Int) → ((List (List Bool)) → Option R) → Option R) (l_tutorref03_Check : {R : Type} → Int → Int → Int → Int → (List Int) → (List Int) → (Int → Int → Option R) → Option R) (l_tutorref05_classes : {R : Type} → (List (List Bool)) → ((List Int) → Option R) → Option R) (l_tutorref05_round : {R : Type} → Int → Int → Int → Int → (List Int) → (List Int) → (List (List Bool)) → Bool → (Bool → (List (List Bool)) → Option R) → Option R) : FuncId → Option Sum := (addS (addS (addS (addS G0 34 (S_tutorref05_start @l_tutorref05_start)) 29 (S_tutorref03_Check @l_tutorref03_Check)) 36 (S_tutorref05_classes @l_tutorref05_classes)) 35 (S_tutorref05_round @l_tutorref05_round))

theorem right_T_tutorref05_Classes : Right Try.prog (T_tutorref05_Classes @l_tutorref05_start @l_tutorref03_Check @l_tutorref05_classes @l_tutorref05_round) := (right_add (right_add (right_add (right_add right_G0 call_tutorref05_start sound_tutorref05_start) call_tutorref03_Check sound_tutorref03_Check) call_tutorref05_classes sound_tutorref05_classes) call_tutorref05_round sound_tutorref05_round)

abbrev cuts_tutorref05_Classes : Cuts := [(6, [1, 7, 8])]

theorem gstep_tutorref05_Classes_6 (l_tutorref05_start : {R : Type} → Int → Int → Int → Int → (List Int) → (List Int) → ((List (List Bool)) → Option R) → Option R) (l_tutorref03_Check : {R : Type} → Int → Int → Int → Int → (List Int) → (List Int) → (Int → Int → Option R) → Option R) (l_tutorref05_classes : {R : Type} → (List (List Bool)) → ((List Int) → Option R) → Option R) (l_tutorref05_round : {R : Type} → Int → Int → Int → Int → (List Int) → (List Int) → (List (List Bool)) → Bool → (Bool → (List (List Bool)) → Option R) → Option R) {R : Type} (g : List Item → St → Option R) (K : AV → List O → Option R) (n : Int) (o0 : Int) (o0_1 : Int) (o0_2 : Int) (o0_3 : Int) (o0_4 : List Int) (o0_5 : List Int) (o1 : List (List Bool)) :
    runSeg Try.prog (T_tutorref05_Classes @l_tutorref05_start @l_tutorref03_Check @l_tutorref05_classes @l_tutorref05_round) cuts_tutorref05_Classes 0 g (finish Try.prog Try.f22 0 K) (at' Try.f22 6) ⟨fr0 38 [(1, .ptr 0 0), (7, .nst 1), (8, .v (.int .i64 n))], [.box 24 [.v (.int .i64 o0), .v (.int .i64 o0_1), .v (.int .i64 o0_2), .v (.int .i64 o0_3), .rd ⟨false, 3, (.int .i64), o0_4⟩, .rd ⟨false, 3, (.int .i64), o0_5⟩], .nst ⟨true, 86, (.sl 4 .bool), o1⟩]⟩ =
    (fun (g22_6 : Int → Int → Int → Int → Int → (List Int) → (List Int) → (List (List Bool)) → Option R) (K0 : Int → Int → (List Int) → Option R) (n : Int) (o0 : Int) (o0_1 : Int) (o0_2 : Int) (o0_3 : Int) (o0_4 : List Int) (o0_5 : List Int) (o1 : List (List Bool)) =>
    l_tutorref05_round o0 o0_1 o0_2 o0_3 o0_4 o0_5 o1 (o0 == 2)
     (fun r4 r5 =>
      bi (!r4)
       (l_tutorref05_classes o1
        (fun r6 =>
         K0 n 0 r6))
       (g22_6 (IntKind.i64.wrap (n + 1)) o0 o0_1 o0_2 o0_3 o0_4 o0_5 r5))) (fun n o0 o0_1 o0_2 o0_3 o0_4 o0_5 o1 => g (at' Try.f22 6) ⟨fr0 38 [(1, .ptr 0 0), (7, .nst 1), (8, .v (.int .i64 n))], [.box 24 [.v (.int .i64 o0), .v (.int .i64 o0_1), .v (.int .i64 o0_2), .v (.int .i64 o0_3), .rd ⟨false, 3, (.int .i64), o0_4⟩, .rd ⟨false, 3, (.int .i64), o0_5⟩], .nst ⟨true, 86, (.sl 4 .bool), o1⟩]⟩) (fun r0 r1 r2 => K (.tup [.own 0, .v (.int .i64 r0), .v (.int .i64 r1)]) [.row ⟨true, 3, (.int .i64), r2⟩]) n o0 o0_1 o0_2 o0_3 o0_4 o0_5 o1 := by kernel_rfl

theorem step_tutorref05_Classes_6 {R : Type} (g : List Item → St → Option R) (K : AV → List O → Option R) (n : Int) (o0 : Int) (o0_1 : Int) (o0_2 : Int) (o0_3 : Int) (o0_4 : List Int) (o0_5 : List Int) (o1 : List (List Bool)) :
    runSeg Try.prog (T_tutorref05_Classes @l_tutorref05_start @l_tutorref03_Check @l_tutorref05_classes @l_tutorref05_round) cuts_tutorref05_Classes 0 g (finish Try.prog Try.f22 0 K) (at' Try.f22 6) ⟨fr0 38 [(1, .ptr 0 0), (7, .nst 1), (8, .v (.int .i64 n))], [.box 24 [.v (.int .i64 o0), .v (.int .i64 o0_1), .v (.int .i64 o0_2), .v (.int .i64 o0_3), .rd ⟨false, 3, (.int .i64), o0_4⟩, .rd ⟨false, 3, (.int .i64), o0_5⟩], .nst ⟨true, 86, (.sl 4 .bool), o1⟩]⟩ =
    s_tutorref05_Classes_6 (fun n o0 o0_1 o0_2 o0_3 o0_4 o0_5 o1 => g (at' Try.f22 6) ⟨fr0 38 [(1, .ptr 0 0), (7, .nst 1), (8, .v (.int .i64 n))], [.box 24 [.v (.int .i64 o0), .v (.int .i64 o0_1), .v (.int .i64 o0_2), .v (.int .i64 o0_3), .rd ⟨false, 3, (.int .i64), o0_4⟩, .rd ⟨false, 3, (.int .i64), o0_5⟩], .nst ⟨true, 86, (.sl 4 .bool), o1⟩]⟩) (fun r0 r1 r2 => K (.tup [.own 0, .v (.int .i64 r0), .v (.int .i64 r1)]) [.row ⟨true, 3, (.int .i64), r2⟩]) n o0 o0_1 o0_2 o0_3 o0_4 o0_5 o1 := gstep_tutorref05_Classes_6 @l_tutorref05_start @l_tutorref03_Check @l_tutorref05_classes @l_tutorref05_round g K n o0 o0_1 o0_2 o0_3 o0_4 o0_5 o1

theorem gentry_tutorref05_Classes (l_tutorref05_start : {R : Type} → Int → Int → Int → Int → (List Int) → (List Int) → ((List (List Bool)) → Option R) → Option R) (l_tutorref03_Check : {R : Type} → Int → Int → Int → Int → (List Int) → (List Int) → (Int → Int → Option R) → Option R) (l_tutorref05_classes : {R : Type} → (List (List Bool)) → ((List Int) → Option R) → Option R) (l_tutorref05_round : {R : Type} → Int → Int → Int → Int → (List Int) → (List Int) → (List (List Bool)) → Bool → (Bool → (List (List Bool)) → Option R) → Option R) {R : Type} (fuel : Nat) (K : AV → List O → Option R) (m : Int) (m_1 : Int) (m_2 : Int) (m_3 : Int) (m_4 : List Int) (m_5 : List Int) :
    fnRun Try.prog (T_tutorref05_Classes @l_tutorref05_start @l_tutorref03_Check @l_tutorref05_classes @l_tutorref05_round) cuts_tutorref05_Classes Try.f22 fuel [.agg [.v (.int .i64 m), .v (.int .i64 m_1), .v (.int .i64 m_2), .v (.int .i64 m_3), .rd ⟨false, 3, (.int .i64), m_4⟩, .rd ⟨false, 3, (.int .i64), m_5⟩]] [] K =
    (fun (g22_6 : Int → Int → Int → Int → Int → (List Int) → (List Int) → (List (List Bool)) → Option R) (K0 : Int → Int → (List Int) → Option R) (m : Int) (m_1 : Int) (m_2 : Int) (m_3 : Int) (m_4 : List Int) (m_5 : List Int) =>
    l_tutorref03_Check m m_1 m_2 m_3 m_4 m_5
     (fun r1 r2 =>
      bi (r2 != 0)
       (K0 0 r2 ([] : List Int))
       (l_tutorref05_start m m_1 m_2 m_3 m_4 m_5
        (fun r3 =>
         g22_6 0 m m_1 m_2 m_3 m_4 m_5 r3)))) (fun n o0 o0_1 o0_2 o0_3 o0_4 o0_5 o1 => (runO Try.prog (T_tutorref05_Classes @l_tutorref05_start @l_tutorref03_Check @l_tutorref05_classes @l_tutorref05_round) cuts_tutorref05_Classes 0 (finish Try.prog Try.f22 0 K) fuel) (at' Try.f22 6) ⟨fr0 38 [(1, .ptr 0 0), (7, .nst 1), (8, .v (.int .i64 n))], [.box 24 [.v (.int .i64 o0), .v (.int .i64 o0_1), .v (.int .i64 o0_2), .v (.int .i64 o0_3), .rd ⟨false, 3, (.int .i64), o0_4⟩, .rd ⟨false, 3, (.int .i64), o0_5⟩], .nst ⟨true, 86, (.sl 4 .bool), o1⟩]⟩) (fun r0 r1 r2 => K (.tup [.own 0, .v (.int .i64 r0), .v (.int .i64 r1)]) [.row ⟨true, 3, (.int .i64), r2⟩]) m m_1 m_2 m_3 m_4 m_5 := by kernel_rfl

theorem entry_tutorref05_Classes {R : Type} (fuel : Nat) (K : AV → List O → Option R) (m : Int) (m_1 : Int) (m_2 : Int) (m_3 : Int) (m_4 : List Int) (m_5 : List Int) :
    fnRun Try.prog (T_tutorref05_Classes @l_tutorref05_start @l_tutorref03_Check @l_tutorref05_classes @l_tutorref05_round) cuts_tutorref05_Classes Try.f22 fuel [.agg [.v (.int .i64 m), .v (.int .i64 m_1), .v (.int .i64 m_2), .v (.int .i64 m_3), .rd ⟨false, 3, (.int .i64), m_4⟩, .rd ⟨false, 3, (.int .i64), m_5⟩]] [] K =
    e_tutorref05_Classes (fun n o0 o0_1 o0_2 o0_3 o0_4 o0_5 o1 => (runO Try.prog (T_tutorref05_Classes @l_tutorref05_start @l_tutorref03_Check @l_tutorref05_classes @l_tutorref05_round) cuts_tutorref05_Classes 0 (finish Try.prog Try.f22 0 K) fuel) (at' Try.f22 6) ⟨fr0 38 [(1, .ptr 0 0), (7, .nst 1), (8, .v (.int .i64 n))], [.box 24 [.v (.int .i64 o0), .v (.int .i64 o0_1), .v (.int .i64 o0_2), .v (.int .i64 o0_3), .rd ⟨false, 3, (.int .i64), o0_4⟩, .rd ⟨false, 3, (.int .i64), o0_5⟩], .nst ⟨true, 86, (.sl 4 .bool), o1⟩]⟩) (fun r0 r1 r2 => K (.tup [.own 0, .v (.int .i64 r0), .v (.int .i64 r1)]) [.row ⟨true, 3, (.int .i64), r2⟩]) m m_1 m_2 m_3 m_4 m_5 := gentry_tutorref05_Classes @l_tutorref05_start @l_tutorref03_Check @l_tutorref05_classes @l_tutorref05_round fuel K m m_1 m_2 m_3 m_4 m_5

theorem runs_tutorref05_Classes {R : Type} (K : AV → List O → Option R) : ∀ fuel : Nat,
    (fun n o0 o0_1 o0_2 o0_3 o0_4 o0_5 o1 => (runO Try.prog (T_tutorref05_Classes @l_tutorref05_start @l_tutorref03_Check @l_tutorref05_classes @l_tutorref05_round) cuts_tutorref05_Classes 0 (finish Try.prog Try.f22 0 K) fuel) (at' Try.f22 6) ⟨fr0 38 [(1, .ptr 0 0), (7, .nst 1), (8, .v (.int .i64 n))], [.box 24 [.v (.int .i64 o0), .v (.int .i64 o0_1), .v (.int .i64 o0_2), .v (.int .i64 o0_3), .rd ⟨false, 3, (.int .i64), o0_4⟩, .rd ⟨false, 3, (.int .i64), o0_5⟩], .nst ⟨true, 86, (.sl 4 .bool), o1⟩]⟩) = (run_tutorref05_Classes (fun r0 r1 r2 => K (.tup [.own 0, .v (.int .i64 r0), .v (.int .i64 r1)]) [.row ⟨true, 3, (.int .i64), r2⟩]) fuel)
  | 0 => rfl
  | fuel + 1 => by
    have ih := runs_tutorref05_Classes K fuel
    funext n o0 o0_1 o0_2 o0_3 o0_4 o0_5 o1
    refine (step_tutorref05_Classes_6 _ K n o0 o0_1 o0_2 o0_3 o0_4 o0_5 o1).trans ?_
    rw [ih]
    rfl

def S_tutorref05_Classes (l_tutorref05_Classes : {R : Type} → Int → Int → Int → Int → (List Int) → (List Int) → (Int → Int → (List Int) → Option R) → Option R) : Sum := ⟨[], fun {R} args ob K => match args, ob with
  | [.agg [.v (.int .i64 m), .v (.int .i64 m_1), .v (.int .i64 m_2), .v (.int .i64 m_3), .rd ⟨false, 3, (.int .i64), m_4⟩, .rd ⟨false, 3, (.int .i64), m_5⟩]], [] => l_tutorref05_Classes m m_1 m_2 m_3 m_4 m_5 (fun r0 r1 r2 => K (.tup [.own 0, .v (.int .i64 r0), .v (.int .i64 r1)]) [.row ⟨true, 3, (.int .i64), r2⟩])
  | _, _ => none⟩

theorem sound_tutorref05_Classes : Sound Try.prog 22 (S_tutorref05_Classes @l_tutorref05_Classes) := by
  refine fn_sound (cuts := cuts_tutorref05_Classes) (fn := Try.f22) (Γ := (T_tutorref05_Classes @l_tutorref05_start @l_tutorref03_Check @l_tutorref05_classes @l_tutorref05_round)) wide right_T_tutorref05_Classes Try.func22 fun {R} K r args ob h => ?_
  unfold S_tutorref05_Classes at h
  dsimp only at h
  split at h
  · obtain ⟨n, hn⟩ := ok_tutorref05_Classes _ _ _ _ _ _ _ h
    refine ⟨Nat.le_of_ble_eq_true (by kernel_rfl), n, (entry_tutorref05_Classes n K _ _ _ _ _ _).trans ?_⟩
    rw [(runs_tutorref05_Classes K n)]
    exact hn
  · cases h

theorem call_tutorref05_Classes : Callable Try.prog 22 := ⟨_, Try.func22, by kernel_rfl, by kernel_rfl⟩

def T_tutorref01_Join : FuncId → Option Sum := G0

theorem right_T_tutorref01_Join : Right Try.prog T_tutorref01_Join := right_G0

abbrev cuts_tutorref01_Join : Cuts := []

theorem gentry_tutorref01_Join {R : Type} (K : AV → List O → Option R) (a : List Int) (b : List Int) :
    fnRun Try.prog T_tutorref01_Join cuts_tutorref01_Join Try.f43 0 [.rd ⟨false, 3, (.int .i64), a⟩, .rd ⟨false, 3, (.int .i64), b⟩] [] K =
    (fun (a : List Int) (b : List Int) (K0 : (List Int) → Option R) =>
    bi (decide ((([] : List Int).length + a.length) * 8 ≤ lim))
     (bi (decide (((([] : List Int) ++ a).length + b.length) * 8 ≤ lim))
      (K0 ((([] : List Int) ++ a) ++ b))
      none)
     none) a b (fun r0 => K (.own 0) [.row ⟨true, 3, (.int .i64), r0⟩]) := by kernel_rfl

theorem entry_tutorref01_Join {R : Type} (K : AV → List O → Option R) (a : List Int) (b : List Int) :
    fnRun Try.prog T_tutorref01_Join cuts_tutorref01_Join Try.f43 0 [.rd ⟨false, 3, (.int .i64), a⟩, .rd ⟨false, 3, (.int .i64), b⟩] [] K =
    l_tutorref01_Join a b (fun r0 => K (.own 0) [.row ⟨true, 3, (.int .i64), r0⟩]) := gentry_tutorref01_Join K a b

def S_tutorref01_Join (l_tutorref01_Join : {R : Type} → (List Int) → (List Int) → ((List Int) → Option R) → Option R) : Sum := ⟨[], fun {R} args ob K => match args, ob with
  | [.rd ⟨false, 3, (.int .i64), a⟩, .rd ⟨false, 3, (.int .i64), b⟩], [] => l_tutorref01_Join a b (fun r0 => K (.own 0) [.row ⟨true, 3, (.int .i64), r0⟩])
  | _, _ => none⟩

theorem sound_tutorref01_Join : Sound Try.prog 43 (S_tutorref01_Join @l_tutorref01_Join) := by
  refine fn_sound (cuts := cuts_tutorref01_Join) (fn := Try.f43) (Γ := T_tutorref01_Join) wide right_T_tutorref01_Join Try.func43 fun {R} K r args ob h => ?_
  unfold S_tutorref01_Join at h
  dsimp only at h
  split at h
  · exact ⟨Nat.le_of_ble_eq_true (by kernel_rfl), 0, (entry_tutorref01_Join K _ _).trans h⟩
  · cases h

theorem call_tutorref01_Join : Callable Try.prog 43 := ⟨_, Try.func43, by kernel_rfl, by kernel_rfl⟩

def T_tutorref04_Reach (l_tutorref03_Check : {R : Type} → Int → Int → Int → Int → (List Int) → (List Int) → (Int → Int → Option R) → Option R) (l_tutorref01_Join : {R : Type} → (List Int) → (List Int) → ((List Int) → Option R) → Option R) : FuncId → Option Sum := (addS (addS G0 29 (S_tutorref03_Check @l_tutorref03_Check)) 43 (S_tutorref01_Join @l_tutorref01_Join))

theorem right_T_tutorref04_Reach : Right Try.prog (T_tutorref04_Reach @l_tutorref03_Check @l_tutorref01_Join) := (right_add (right_add right_G0 call_tutorref03_Check sound_tutorref03_Check) call_tutorref01_Join sound_tutorref01_Join)

abbrev cuts_tutorref04_Reach : Cuts := [(9, [1, 7, 8, 9, 10]), (12, [1, 7, 8, 9, 11, 12]), (15, [1, 7, 8, 9, 11, 12, 13])]

theorem gstep_tutorref04_Reach_9 (l_tutorref03_Check : {R : Type} → Int → Int → Int → Int → (List Int) → (List Int) → (Int → Int → Option R) → Option R) (l_tutorref01_Join : {R : Type} → (List Int) → (List Int) → ((List Int) → Option R) → Option R) {R : Type} (g : List Item → St → Option R) (K : AV → List O → Option R) (vfrom : Int) (o0 : Int) (o0_1 : Int) (o0_2 : Int) (o0_3 : Int) (o0_4 : List Int) (o0_5 : List Int) (o1 : List Bool) (o2 : List Int) (o3 : List (List Int)) :
    runSeg Try.prog (T_tutorref04_Reach @l_tutorref03_Check @l_tutorref01_Join) cuts_tutorref04_Reach 0 g (finish Try.prog Try.f48 0 K) (at' Try.f48 9) ⟨fr0 87 [(1, .ptr 0 0), (7, .own 1), (8, .own 2), (9, .nst 3), (10, .v (.int .i64 vfrom))], [.box 24 [.v (.int .i64 o0), .v (.int .i64 o0_1), .v (.int .i64 o0_2), .v (.int .i64 o0_3), .rd ⟨false, 3, (.int .i64), o0_4⟩, .rd ⟨false, 3, (.int .i64), o0_5⟩], .row ⟨true, 4, .bool, o1⟩, .row ⟨true, 3, (.int .i64), o2⟩, .nst ⟨true, 22, (.sl 3 (.int .i64)), o3⟩]⟩ =
    (fun (g48_9 : Int → Int → Int → Int → Int → (List Int) → (List Int) → (List Bool) → (List Int) → (List (List Int)) → Option R) (g48_12 : Int → Int → Int → Int → Int → Int → (List Int) → (List Int) → (List Bool) → (List Int) → (List (List Int)) → Option R) (g48_15 : Int → Int → Int → Int → Int → Int → Int → (List Int) → (List Int) → (List Bool) → (List Int) → (List (List Int)) → Option R) (K0 : Int → (List Int) → (List (List Int)) → Option R) (vfrom : Int) (o0 : Int) (o0_1 : Int) (o0_2 : Int) (o0_3 : Int) (o0_4 : List Int) (o0_5 : List Int) (o1 : List Bool) (o2 : List Int) (o3 : List (List Int)) =>
    bi (decide (vfrom < (o2.length : Int)))
     (g48_12 (o2.length : Int) vfrom o0 o0_1 o0_2 o0_3 o0_4 o0_5 o1 o2 o3)
     (K0 0 o2 o3)) (fun vfrom o0 o0_1 o0_2 o0_3 o0_4 o0_5 o1 o2 o3 => g (at' Try.f48 9) ⟨fr0 87 [(1, .ptr 0 0), (7, .own 1), (8, .own 2), (9, .nst 3), (10, .v (.int .i64 vfrom))], [.box 24 [.v (.int .i64 o0), .v (.int .i64 o0_1), .v (.int .i64 o0_2), .v (.int .i64 o0_3), .rd ⟨false, 3, (.int .i64), o0_4⟩, .rd ⟨false, 3, (.int .i64), o0_5⟩], .row ⟨true, 4, .bool, o1⟩, .row ⟨true, 3, (.int .i64), o2⟩, .nst ⟨true, 22, (.sl 3 (.int .i64)), o3⟩]⟩) (fun vuntil i o0 o0_1 o0_2 o0_3 o0_4 o0_5 o1 o2 o3 => g (at' Try.f48 12) ⟨fr0 87 [(1, .ptr 0 0), (7, .own 1), (8, .own 2), (9, .nst 3), (11, .v (.int .i64 vuntil)), (12, .v (.int .i64 i))], [.box 24 [.v (.int .i64 o0), .v (.int .i64 o0_1), .v (.int .i64 o0_2), .v (.int .i64 o0_3), .rd ⟨false, 3, (.int .i64), o0_4⟩, .rd ⟨false, 3, (.int .i64), o0_5⟩], .row ⟨true, 4, .bool, o1⟩, .row ⟨true, 3, (.int .i64), o2⟩, .nst ⟨true, 22, (.sl 3 (.int .i64)), o3⟩]⟩) (fun vuntil i x o0 o0_1 o0_2 o0_3 o0_4 o0_5 o1 o2 o3 => g (at' Try.f48 15) ⟨fr0 87 [(1, .ptr 0 0), (7, .own 1), (8, .own 2), (9, .nst 3), (11, .v (.int .i64 vuntil)), (12, .v (.int .i64 i)), (13, .v (.int .i64 x))], [.box 24 [.v (.int .i64 o0), .v (.int .i64 o0_1), .v (.int .i64 o0_2), .v (.int .i64 o0_3), .rd ⟨false, 3, (.int .i64), o0_4⟩, .rd ⟨false, 3, (.int .i64), o0_5⟩], .row ⟨true, 4, .bool, o1⟩, .row ⟨true, 3, (.int .i64), o2⟩, .nst ⟨true, 22, (.sl 3 (.int .i64)), o3⟩]⟩) (fun r0 r1 r2 => K (.tup [.own 0, .nst 1, .v (.int .i64 r0)]) [.row ⟨true, 3, (.int .i64), r1⟩, .nst ⟨true, 22, (.sl 3 (.int .i64)), r2⟩]) vfrom o0 o0_1 o0_2 o0_3 o0_4 o0_5 o1 o2 o3 := by kernel_rfl

theorem step_tutorref04_Reach_9 {R : Type} (g : List Item → St → Option R) (K : AV → List O → Option R) (vfrom : Int) (o0 : Int) (o0_1 : Int) (o0_2 : Int) (o0_3 : Int) (o0_4 : List Int) (o0_5 : List Int) (o1 : List Bool) (o2 : List Int) (o3 : List (List Int)) :
    runSeg Try.prog (T_tutorref04_Reach @l_tutorref03_Check @l_tutorref01_Join) cuts_tutorref04_Reach 0 g (finish Try.prog Try.f48 0 K) (at' Try.f48 9) ⟨fr0 87 [(1, .ptr 0 0), (7, .own 1), (8, .own 2), (9, .nst 3), (10, .v (.int .i64 vfrom))], [.box 24 [.v (.int .i64 o0), .v (.int .i64 o0_1), .v (.int .i64 o0_2), .v (.int .i64 o0_3), .rd ⟨false, 3, (.int .i64), o0_4⟩, .rd ⟨false, 3, (.int .i64), o0_5⟩], .row ⟨true, 4, .bool, o1⟩, .row ⟨true, 3, (.int .i64), o2⟩, .nst ⟨true, 22, (.sl 3 (.int .i64)), o3⟩]⟩ =
    s_tutorref04_Reach_9 (fun vfrom o0 o0_1 o0_2 o0_3 o0_4 o0_5 o1 o2 o3 => g (at' Try.f48 9) ⟨fr0 87 [(1, .ptr 0 0), (7, .own 1), (8, .own 2), (9, .nst 3), (10, .v (.int .i64 vfrom))], [.box 24 [.v (.int .i64 o0), .v (.int .i64 o0_1), .v (.int .i64 o0_2), .v (.int .i64 o0_3), .rd ⟨false, 3, (.int .i64), o0_4⟩, .rd ⟨false, 3, (.int .i64), o0_5⟩], .row ⟨true, 4, .bool, o1⟩, .row ⟨true, 3, (.int .i64), o2⟩, .nst ⟨true, 22, (.sl 3 (.int .i64)), o3⟩]⟩) (fun vuntil i o0 o0_1 o0_2 o0_3 o0_4 o0_5 o1 o2 o3 => g (at' Try.f48 12) ⟨fr0 87 [(1, .ptr 0 0), (7, .own 1), (8, .own 2), (9, .nst 3), (11, .v (.int .i64 vuntil)), (12, .v (.int .i64 i))], [.box 24 [.v (.int .i64 o0), .v (.int .i64 o0_1), .v (.int .i64 o0_2), .v (.int .i64 o0_3), .rd ⟨false, 3, (.int .i64), o0_4⟩, .rd ⟨false, 3, (.int .i64), o0_5⟩], .row ⟨true, 4, .bool, o1⟩, .row ⟨true, 3, (.int .i64), o2⟩, .nst ⟨true, 22, (.sl 3 (.int .i64)), o3⟩]⟩) (fun vuntil i x o0 o0_1 o0_2 o0_3 o0_4 o0_5 o1 o2 o3 => g (at' Try.f48 15) ⟨fr0 87 [(1, .ptr 0 0), (7, .own 1), (8, .own 2), (9, .nst 3), (11, .v (.int .i64 vuntil)), (12, .v (.int .i64 i)), (13, .v (.int .i64 x))], [.box 24 [.v (.int .i64 o0), .v (.int .i64 o0_1), .v (.int .i64 o0_2), .v (.int .i64 o0_3), .rd ⟨false, 3, (.int .i64), o0_4⟩, .rd ⟨false, 3, (.int .i64), o0_5⟩], .row ⟨true, 4, .bool, o1⟩, .row ⟨true, 3, (.int .i64), o2⟩, .nst ⟨true, 22, (.sl 3 (.int .i64)), o3⟩]⟩) (fun r0 r1 r2 => K (.tup [.own 0, .nst 1, .v (.int .i64 r0)]) [.row ⟨true, 3, (.int .i64), r1⟩, .nst ⟨true, 22, (.sl 3 (.int .i64)), r2⟩]) vfrom o0 o0_1 o0_2 o0_3 o0_4 o0_5 o1 o2 o3 := gstep_tutorref04_Reach_9 @l_tutorref03_Check @l_tutorref01_Join g K vfrom o0 o0_1 o0_2 o0_3 o0_4 o0_5 o1 o2 o3

theorem gstep_tutorref04_Reach_12 (l_tutorref03_Check : {R : Type} → Int → Int → Int → Int → (List Int) → (List Int) → (Int → Int → Option R) → Option R) (l_tutorref01_Join : {R : Type} → (List Int) → (List Int) → ((List Int) → Option R) → Option R) {R : Type} (g : List Item → St → Option R) (K : AV → List O → Option R) (vuntil : Int) (i : Int) (o0 : Int) (o0_1 : Int) (o0_2 : Int) (o0_3 : Int) (o0_4 : List Int) (o0_5 : List Int) (o1 : List Bool) (o2 : List Int) (o3 : List (List Int)) :
    runSeg Try.prog (T_tutorref04_Reach @l_tutorref03_Check @l_tutorref01_Join) cuts_tutorref04_Reach 0 g (finish Try.prog Try.f48 0 K) (at' Try.f48 12) ⟨fr0 87 [(1, .ptr 0 0), (7, .own 1), (8, .own 2), (9, .nst 3), (11, .v (.int .i64 vuntil)), (12, .v (.int .i64 i))], [.box 24 [.v (.int .i64 o0), .v (.int .i64 o0_1), .v (.int .i64 o0_2), .v (.int .i64 o0_3), .rd ⟨false, 3, (.int .i64), o0_4⟩, .rd ⟨false, 3, (.int .i64), o0_5⟩], .row ⟨true, 4, .bool, o1⟩, .row ⟨true, 3, (.int .i64), o2⟩, .nst ⟨true, 22, (.sl 3 (.int .i64)), o3⟩]⟩ =
    (fun (g48_9 : Int → Int → Int → Int → Int → (List Int) → (List Int) → (List Bool) → (List Int) → (List (List Int)) → Option R) (g48_12 : Int → Int → Int → Int → Int → Int → (List Int) → (List Int) → (List Bool) → (List Int) → (List (List Int)) → Option R) (g48_15 : Int → Int → Int → Int → Int → Int → Int → (List Int) → (List Int) → (List Bool) → (List Int) → (List (List Int)) → Option R) (K0 : Int → (List Int) → (List (List Int)) → Option R) (vuntil : Int) (i : Int) (o0 : Int) (o0_1 : Int) (o0_2 : Int) (o0_3 : Int) (o0_4 : List Int) (o0_5 : List Int) (o1 : List Bool) (o2 : List Int) (o3 : List (List Int)) =>
    bi (decide (i < vuntil))
     (g48_15 vuntil i 0 o0 o0_1 o0_2 o0_3 o0_4 o0_5 o1 o2 o3)
     (g48_9 vuntil o0 o0_1 o0_2 o0_3 o0_4 o0_5 o1 o2 o3)) (fun vfrom o0 o0_1 o0_2 o0_3 o0_4 o0_5 o1 o2 o3 => g (at' Try.f48 9) ⟨fr0 87 [(1, .ptr 0 0), (7, .own 1), (8, .own 2), (9, .nst 3), (10, .v (.int .i64 vfrom))], [.box 24 [.v (.int .i64 o0), .v (.int .i64 o0_1), .v (.int .i64 o0_2), .v (.int .i64 o0_3), .rd ⟨false, 3, (.int .i64), o0_4⟩, .rd ⟨false, 3, (.int .i64), o0_5⟩], .row ⟨true, 4, .bool, o1⟩, .row ⟨true, 3, (.int .i64), o2⟩, .nst ⟨true, 22, (.sl 3 (.int .i64)), o3⟩]⟩) (fun vuntil i o0 o0_1 o0_2 o0_3 o0_4 o0_5 o1 o2 o3 => g (at' Try.f48 12) ⟨fr0 87 [(1, .ptr 0 0), (7, .own 1), (8, .own 2), (9, .nst 3), (11, .v (.int .i64 vuntil)), (12, .v (.int .i64 i))], [.box 24 [.v (.int .i64 o0), .v (.int .i64 o0_1), .v (.int .i64 o0_2), .v (.int .i64 o0_3), .rd ⟨false, 3, (.int .i64), o0_4⟩, .rd ⟨false, 3, (.int .i64), o0_5⟩], .row ⟨true, 4, .bool, o1⟩, .row ⟨true, 3, (.int .i64), o2⟩, .nst ⟨true, 22, (.sl 3 (.int .i64)), o3⟩]⟩) (fun vuntil i x o0 o0_1 o0_2 o0_3 o0_4 o0_5 o1 o2 o3 => g (at' Try.f48 15) ⟨fr0 87 [(1, .ptr 0 0), (7, .own 1), (8, .own 2), (9, .nst 3), (11, .v (.int .i64 vuntil)), (12, .v (.int .i64 i)), (13, .v (.int .i64 x))], [.box 24 [.v (.int .i64 o0), .v (.int .i64 o0_1), .v (.int .i64 o0_2), .v (.int .i64 o0_3), .rd ⟨false, 3, (.int .i64), o0_4⟩, .rd ⟨false, 3, (.int .i64), o0_5⟩], .row ⟨true, 4, .bool, o1⟩, .row ⟨true, 3, (.int .i64), o2⟩, .nst ⟨true, 22, (.sl 3 (.int .i64)), o3⟩]⟩) (fun r0 r1 r2 => K (.tup [.own 0, .nst 1, .v (.int .i64 r0)]) [.row ⟨true, 3, (.int .i64), r1⟩, .nst ⟨true, 22, (.sl 3 (.int .i64)), r2⟩]) vuntil i o0 o0_1 o0_2 o0_3 o0_4 o0_5 o1 o2 o3 := by kernel_rfl

theorem step_tutorref04_Reach_12 {R : Type} (g : List Item → St → Option R) (K : AV → List O → Option R) (vuntil : Int) (i : Int) (o0 : Int) (o0_1 : Int) (o0_2 : Int) (o0_3 : Int) (o0_4 : List Int) (o0_5 : List Int) (o1 : List Bool) (o2 : List Int) (o3 : List (List Int)) :
    runSeg Try.prog (T_tutorref04_Reach @l_tutorref03_Check @l_tutorref01_Join) cuts_tutorref04_Reach 0 g (finish Try.prog Try.f48 0 K) (at' Try.f48 12) ⟨fr0 87 [(1, .ptr 0 0), (7, .own 1), (8, .own 2), (9, .nst 3), (11, .v (.int .i64 vuntil)), (12, .v (.int .i64 i))], [.box 24 [.v (.int .i64 o0), .v (.int .i64 o0_1), .v (.int .i64 o0_2), .v (.int .i64 o0_3), .rd ⟨false, 3, (.int .i64), o0_4⟩, .rd ⟨false, 3, (.int .i64), o0_5⟩], .row ⟨true, 4, .bool, o1⟩, .row ⟨true, 3, (.int .i64), o2⟩, .nst ⟨true, 22, (.sl 3 (.int .i64)), o3⟩]⟩ =
    s_tutorref04_Reach_12 (fun vfrom o0 o0_1 o0_2 o0_3 o0_4 o0_5 o1 o2 o3 => g (at' Try.f48 9) ⟨fr0 87 [(1, .ptr 0 0), (7, .own 1), (8, .own 2), (9, .nst 3), (10, .v (.int .i64 vfrom))], [.box 24 [.v (.int .i64 o0), .v (.int .i64 o0_1), .v (.int .i64 o0_2), .v (.int .i64 o0_3), .rd ⟨false, 3, (.int .i64), o0_4⟩, .rd ⟨false, 3, (.int .i64), o0_5⟩], .row ⟨true, 4, .bool, o1⟩, .row ⟨true, 3, (.int .i64), o2⟩, .nst ⟨true, 22, (.sl 3 (.int .i64)), o3⟩]⟩) (fun vuntil i o0 o0_1 o0_2 o0_3 o0_4 o0_5 o1 o2 o3 => g (at' Try.f48 12) ⟨fr0 87 [(1, .ptr 0 0), (7, .own 1), (8, .own 2), (9, .nst 3), (11, .v (.int .i64 vuntil)), (12, .v (.int .i64 i))], [.box 24 [.v (.int .i64 o0), .v (.int .i64 o0_1), .v (.int .i64 o0_2), .v (.int .i64 o0_3), .rd ⟨false, 3, (.int .i64), o0_4⟩, .rd ⟨false, 3, (.int .i64), o0_5⟩], .row ⟨true, 4, .bool, o1⟩, .row ⟨true, 3, (.int .i64), o2⟩, .nst ⟨true, 22, (.sl 3 (.int .i64)), o3⟩]⟩) (fun vuntil i x o0 o0_1 o0_2 o0_3 o0_4 o0_5 o1 o2 o3 => g (at' Try.f48 15) ⟨fr0 87 [(1, .ptr 0 0), (7, .own 1), (8, .own 2), (9, .nst 3), (11, .v (.int .i64 vuntil)), (12, .v (.int .i64 i)), (13, .v (.int .i64 x))], [.box 24 [.v (.int .i64 o0), .v (.int .i64 o0_1), .v (.int .i64 o0_2), .v (.int .i64 o0_3), .rd ⟨false, 3, (.int .i64), o0_4⟩, .rd ⟨false, 3, (.int .i64), o0_5⟩], .row ⟨true, 4, .bool, o1⟩, .row ⟨true, 3, (.int .i64), o2⟩, .nst ⟨true, 22, (.sl 3 (.int .i64)), o3⟩]⟩) (fun r0 r1 r2 => K (.tup [.own 0, .nst 1, .v (.int .i64 r0)]) [.row ⟨true, 3, (.int .i64), r1⟩, .nst ⟨true, 22, (.sl 3 (.int .i64)), r2⟩]) vuntil i o0 o0_1 o0_2 o0_3 o0_4 o0_5 o1 o2 o3 := gstep_tutorref04_Reach_12 @l_tutorref03_Check @l_tutorref01_Join g K vuntil i o0 o0_1 o0_2 o0_3 o0_4 o0_5 o1 o2 o3

theorem gstep_tutorref04_Reach_15 (l_tutorref03_Check : {R : Type} → Int → Int → Int → Int → (List Int) → (List Int) → (Int → Int → Option R) → Option R) (l_tutorref01_Join : {R : Type} → (List Int) → (List Int) → ((List Int) → Option R) → Option R) {R : Type} (g : List Item → St → Option R) (K : AV → List O → Option R) (vuntil : Int) (i : Int) (x : Int) (o0 : Int) (o0_1 : Int) (o0_2 : Int) (o0_3 : Int) (o0_4 : List Int) (o0_5 : List Int) (o1 : List Bool) (o2 : List Int) (o3 : List (List Int)) :
    runSeg Try.prog (T_tutorref04_Reach @l_tutorref03_Check @l_tutorref01_Join) cuts_tutorref04_Reach 0 g (finish Try.prog Try.f48 0 K) (at' Try.f48 15) ⟨fr0 87 [(1, .ptr 0 0), (7, .own 1), (8, .own 2), (9, .nst 3), (11, .v (.int .i64 vuntil)), (12, .v (.int .i64 i)), (13, .v (.int .i64 x))], [.box 24 [.v (.int .i64 o0), .v (.int .i64 o0_1), .v (.int .i64 o0_2), .v (.int .i64 o0_3), .rd ⟨false, 3, (.int .i64), o0_4⟩, .rd ⟨false, 3, (.int .i64), o0_5⟩], .row ⟨true, 4, .bool, o1⟩, .row ⟨true, 3, (.int .i64), o2⟩, .nst ⟨true, 22, (.sl 3 (.int .i64)), o3⟩]⟩ =
    (fun (g48_9 : Int → Int → Int → Int → Int → (List Int) → (List Int) → (List Bool) → (List Int) → (List (List Int)) → Option R) (g48_12 : Int → Int → Int → Int → Int → Int → (List Int) → (List Int) → (List Bool) → (List Int) → (List (List Int)) → Option R) (g48_15 : Int → Int → Int → Int → Int → Int → Int → (List Int) → (List Int) → (List Bool) → (List Int) → (List (List Int)) → Option R) (K0 : Int → (List Int) → (List (List Int)) → Option R) (vuntil : Int) (i : Int) (x : Int) (o0 : Int) (o0_1 : Int) (o0_2 : Int) (o0_3 : Int) (o0_4 : List Int) (o0_5 : List Int) (o1 : List Bool) (o2 : List Int) (o3 : List (List Int)) =>
    bi (decide (x < o0_1))
     (bi (decide (0 ≤ i ∧ i < ((o2.length : Nat) : Int)))
      (bi (decide (0 ≤ (IntKind.i64.wrap ((IntKind.i64.wrap ((o2.getD i.toNat 0) * o0_1)) + x)) ∧ (IntKind.i64.wrap ((IntKind.i64.wrap ((o2.getD i.toNat 0) * o0_1)) + x)) < ((o0_4.length : Nat) : Int)))
       (bi (decide (0 ≤ (o0_4.getD ((IntKind.i64.wrap ((IntKind.i64.wrap ((o2.getD i.toNat 0) * o0_1)) + x)).toNat) 0) ∧ (o0_4.getD ((IntKind.i64.wrap ((IntKind.i64.wrap ((o2.getD i.toNat 0) * o0_1)) + x)).toNat) 0) < ((o1.length : Nat) : Int)))
        (bi (!(o1.getD ((o0_4.getD ((IntKind.i64.wrap ((IntKind.i64.wrap ((o2.getD i.toNat 0) * o0_1)) + x)).toNat) 0).toNat) false))
         (bi (decide (0 ≤ (o0_4.getD ((IntKind.i64.wrap ((IntKind.i64.wrap ((o2.getD i.toNat 0) * o0_1)) + x)).toNat) 0) ∧ (o0_4.getD ((IntKind.i64.wrap ((IntKind.i64.wrap ((o2.getD i.toNat 0) * o0_1)) + x)).toNat) 0) < ((o1.length : Nat) : Int)))
          (bi (decide ((o2.length + [o0_4.getD ((IntKind.i64.wrap ((IntKind.i64.wrap ((o2.getD i.toNat 0) * o0_1)) + x)).toNat) 0].length) * 8 ≤ lim))
           (bi (decide (0 ≤ i ∧ i < ((o3.length : Nat) : Int)))
            (l_tutorref01_Join (o3.getD i.toNat []) [x]
             (fun r3 =>
              bi (decide ((o3.length + [r3].length) * 24 ≤ lim))
               (g48_15 vuntil i (IntKind.i64.wrap (x + 1)) o0 o0_1 o0_2 o0_3 o0_4 o0_5 (o1.set ((o0_4.getD ((IntKind.i64.wrap ((IntKind.i64.wrap ((o2.getD i.toNat 0) * o0_1)) + x)).toNat) 0).toNat) true) (o2 ++ [o0_4.getD ((IntKind.i64.wrap ((IntKind.i64.wrap ((o2.getD i.toNat 0) * o0_1)) + x)).toNat) 0]) (o3 ++ [r3]))
               none))
            none)
           none)
          none)
         (g48_15 vuntil i (IntKind.i64.wrap (x + 1)) o0 o0_1 o0_2 o0_3 o0_4 o0_5 o1 o2 o3))
        none)
       none)
      none)
     (g48_12 vuntil (IntKind.i64.wrap (i + 1)) o0 o0_1 o0_2 o0_3 o0_4 o0_5 o1 o2 o3)) (fun vfrom o0 o0_1 o0_2 o0_3 o0_4 o0_5 o1 o2 o3 => g (at' Try.f48 9) ⟨fr0 87 [(1, .ptr 0 0), (7, .own 1), (8, .own 2), (9, .nst 3), (10, .v (.int .i64 vfrom))], [.box 24 [.v (.int .i64 o0), .v (.int .i64 o0_1), .v (.int .i64 o0_2), .v (.int .i64 o0_3), .rd ⟨false, 3, (.int .i64), o0_4⟩, .rd ⟨false, 3, (.int .i64), o0_5⟩], .row ⟨true, 4, .bool, o1⟩, .row ⟨true, 3, (.int .i64), o2⟩, .nst ⟨true, 22, (.sl 3 (.int .i64)), o3⟩]⟩) (fun vuntil i o0 o0_1 o0_2 o0_3 o0_4 o0_5 o1 o2 o3 => g (at' Try.f48 12) ⟨fr0 87 [(1, .ptr 0 0), (7, .own 1), (8, .own 2), (9, .nst 3), (11, .v (.int .i64 vuntil)), (12, .v (.int .i64 i))], [.box 24 [.v (.int .i64 o0), .v (.int .i64 o0_1), .v (.int .i64 o0_2), .v (.int .i64 o0_3), .rd ⟨false, 3, (.int .i64), o0_4⟩, .rd ⟨false, 3, (.int .i64), o0_5⟩], .row ⟨true, 4, .bool, o1⟩, .row ⟨true, 3, (.int .i64), o2⟩, .nst ⟨true, 22, (.sl 3 (.int .i64)), o3⟩]⟩) (fun vuntil i x o0 o0_1 o0_2 o0_3 o0_4 o0_5 o1 o2 o3 => g (at' Try.f48 15) ⟨fr0 87 [(1, .ptr 0 0), (7, .own 1), (8, .own 2), (9, .nst 3), (11, .v (.int .i64 vuntil)), (12, .v (.int .i64 i)), (13, .v (.int .i64 x))], [.box 24 [.v (.int .i64 o0), .v (.int .i64 o0_1), .v (.int .i64 o0_2), .v (.int .i64 o0_3), .rd ⟨false, 3, (.int .i64), o0_4⟩, .rd ⟨false, 3, (.int .i64), o0_5⟩], .row ⟨true, 4, .bool, o1⟩, .row ⟨true, 3, (.int .i64), o2⟩, .nst ⟨true, 22, (.sl 3 (.int .i64)), o3⟩]⟩) (fun r0 r1 r2 => K (.tup [.own 0, .nst 1, .v (.int .i64 r0)]) [.row ⟨true, 3, (.int .i64), r1⟩, .nst ⟨true, 22, (.sl 3 (.int .i64)), r2⟩]) vuntil i x o0 o0_1 o0_2 o0_3 o0_4 o0_5 o1 o2 o3 := by kernel_rfl

theorem step_tutorref04_Reach_15 {R : Type} (g : List Item → St → Option R) (K : AV → List O → Option R) (vuntil : Int) (i : Int) (x : Int) (o0 : Int) (o0_1 : Int) (o0_2 : Int) (o0_3 : Int) (o0_4 : List Int) (o0_5 : List Int) (o1 : List Bool) (o2 : List Int) (o3 : List (List Int)) :
    runSeg Try.prog (T_tutorref04_Reach @l_tutorref03_Check @l_tutorref01_Join) cuts_tutorref04_Reach 0 g (finish Try.prog Try.f48 0 K) (at' Try.f48 15) ⟨fr0 87 [(1, .ptr 0 0), (7, .own 1), (8, .own 2), (9, .nst 3), (11, .v (.int .i64 vuntil)), (12, .v (.int .i64 i)), (13, .v (.int .i64 x))], [.box 24 [.v (.int .i64 o0), .v (.int .i64 o0_1), .v (.int .i64 o0_2), .v (.int .i64 o0_3), .rd ⟨false, 3, (.int .i64), o0_4⟩, .rd ⟨false, 3, (.int .i64), o0_5⟩], .row ⟨true, 4, .bool, o1⟩, .row ⟨true, 3, (.int .i64), o2⟩, .nst ⟨true, 22, (.sl 3 (.int .i64)), o3⟩]⟩ =
    s_tutorref04_Reach_15 (fun vfrom o0 o0_1 o0_2 o0_3 o0_4 o0_5 o1 o2 o3 => g (at' Try.f48 9) ⟨fr0 87 [(1, .ptr 0 0), (7, .own 1), (8, .own 2), (9, .nst 3), (10, .v (.int .i64 vfrom))], [.box 24 [.v (.int .i64 o0), .v (.int .i64 o0_1), .v (.int .i64 o0_2), .v (.int .i64 o0_3), .rd ⟨false, 3, (.int .i64), o0_4⟩, .rd ⟨false, 3, (.int .i64), o0_5⟩], .row ⟨true, 4, .bool, o1⟩, .row ⟨true, 3, (.int .i64), o2⟩, .nst ⟨true, 22, (.sl 3 (.int .i64)), o3⟩]⟩) (fun vuntil i o0 o0_1 o0_2 o0_3 o0_4 o0_5 o1 o2 o3 => g (at' Try.f48 12) ⟨fr0 87 [(1, .ptr 0 0), (7, .own 1), (8, .own 2), (9, .nst 3), (11, .v (.int .i64 vuntil)), (12, .v (.int .i64 i))], [.box 24 [.v (.int .i64 o0), .v (.int .i64 o0_1), .v (.int .i64 o0_2), .v (.int .i64 o0_3), .rd ⟨false, 3, (.int .i64), o0_4⟩, .rd ⟨false, 3, (.int .i64), o0_5⟩], .row ⟨true, 4, .bool, o1⟩, .row ⟨true, 3, (.int .i64), o2⟩, .nst ⟨true, 22, (.sl 3 (.int .i64)), o3⟩]⟩) (fun vuntil i x o0 o0_1 o0_2 o0_3 o0_4 o0_5 o1 o2 o3 => g (at' Try.f48 15) ⟨fr0 87 [(1, .ptr 0 0), (7, .own 1), (8, .own 2), (9, .nst 3), (11, .v (.int .i64 vuntil)), (12, .v (.int .i64 i)), (13, .v (.int .i64 x))], [.box 24 [.v (.int .i64 o0), .v (.int .i64 o0_1), .v (.int .i64 o0_2), .v (.int .i64 o0_3), .rd ⟨false, 3, (.int .i64), o0_4⟩, .rd ⟨false, 3, (.int .i64), o0_5⟩], .row ⟨true, 4, .bool, o1⟩, .row ⟨true, 3, (.int .i64), o2⟩, .nst ⟨true, 22, (.sl 3 (.int .i64)), o3⟩]⟩) (fun r0 r1 r2 => K (.tup [.own 0, .nst 1, .v (.int .i64 r0)]) [.row ⟨true, 3, (.int .i64), r1⟩, .nst ⟨true, 22, (.sl 3 (.int .i64)), r2⟩]) vuntil i x o0 o0_1 o0_2 o0_3 o0_4 o0_5 o1 o2 o3 := gstep_tutorref04_Reach_15 @l_tutorref03_Check @l_tutorref01_Join g K vuntil i x o0 o0_1 o0_2 o0_3 o0_4 o0_5 o1 o2 o3

theorem gentry_tutorref04_Reach (l_tutorref03_Check : {R : Type} → Int → Int → Int → Int → (List Int) → (List Int) → (Int → Int → Option R) → Option R) (l_tutorref01_Join : {R : Type} → (List Int) → (List Int) → ((List Int) → Option R) → Option R) {R : Type} (fuel : Nat) (K : AV → List O → Option R) (m : Int) (m_1 : Int) (m_2 : Int) (m_3 : Int) (m_4 : List Int) (m_5 : List Int) :
    fnRun Try.prog (T_tutorref04_Reach @l_tutorref03_Check @l_tutorref01_Join) cuts_tutorref04_Reach Try.f48 fuel [.agg [.v (.int .i64 m), .v (.int .i64 m_1), .v (.int .i64 m_2), .v (.int .i64 m_3), .rd ⟨false, 3, (.int .i64), m_4⟩, .rd ⟨false, 3, (.int .i64), m_5⟩]] [] K =
    (fun (g48_9 : Int → Int → Int → Int → Int → (List Int) → (List Int) → (List Bool) → (List Int) → (List (List Int)) → Option R) (g48_12 : Int → Int → Int → Int → Int → Int → (List Int) → (List Int) → (List Bool) → (List Int) → (List (List Int)) → Option R) (g48_15 : Int → Int → Int → Int → Int → Int → Int → (List Int) → (List Int) → (List Bool) → (List Int) → (List (List Int)) → Option R) (K0 : Int → (List Int) → (List (List Int)) → Option R) (m : Int) (m_1 : Int) (m_2 : Int) (m_3 : Int) (m_4 : List Int) (m_5 : List Int) =>
    l_tutorref03_Check m m_1 m_2 m_3 m_4 m_5
     (fun r1 r2 =>
      bi (r2 != 0)
       (K0 r2 ([] : List Int) ([] : List (List Int)))
       (bi (decide (0 ≤ m_3 ∧ m_3 ≤ m_3 ∧ m_3 ≤ 1073741824))
        (bi (decide (0 ≤ (0 : Int) ∧ (0 : Int) < (((List.replicate m_3.toNat (false : Bool)).length : Nat) : Int)))
         (g48_9 0 m m_1 m_2 m_3 m_4 m_5 ((List.replicate m_3.toNat (false : Bool)).set 0 true) [0] [([] : List Int)])
         none)
        none))) (fun vfrom o0 o0_1 o0_2 o0_3 o0_4 o0_5 o1 o2 o3 => (runO Try.prog (T_tutorref04_Reach @l_tutorref03_Check @l_tutorref01_Join) cuts_tutorref04_Reach 0 (finish Try.prog Try.f48 0 K) fuel) (at' Try.f48 9) ⟨fr0 87 [(1, .ptr 0 0), (7, .own 1), (8, .own 2), (9, .nst 3), (10, .v (.int .i64 vfrom))], [.box 24 [.v (.int .i64 o0), .v (.int .i64 o0_1), .v (.int .i64 o0_2), .v (.int .i64 o0_3), .rd ⟨false, 3, (.int .i64), o0_4⟩, .rd ⟨false, 3, (.int .i64), o0_5⟩], .row ⟨true, 4, .bool, o1⟩, .row ⟨true, 3, (.int .i64), o2⟩, .nst ⟨true, 22, (.sl 3 (.int .i64)), o3⟩]⟩) (fun vuntil i o0 o0_1 o0_2 o0_3 o0_4 o0_5 o1 o2 o3 => (runO Try.prog (T_tutorref04_Reach @l_tutorref03_Check @l_tutorref01_Join) cuts_tutorref04_Reach 0 (finish Try.prog Try.f48 0 K) fuel) (at' Try.f48 12) ⟨fr0 87 [(1, .ptr 0 0), (7, .own 1), (8, .own 2), (9, .nst 3), (11, .v (.int .i64 vuntil)), (12, .v (.int .i64 i))], [.box 24 [.v (.int .i64 o0), .v (.int .i64 o0_1), .v (.int .i64 o0_2), .v (.int .i64 o0_3), .rd ⟨false, 3, (.int .i64), o0_4⟩, .rd ⟨false, 3, (.int .i64), o0_5⟩], .row ⟨true, 4, .bool, o1⟩, .row ⟨true, 3, (.int .i64), o2⟩, .nst ⟨true, 22, (.sl 3 (.int .i64)), o3⟩]⟩) (fun vuntil i x o0 o0_1 o0_2 o0_3 o0_4 o0_5 o1 o2 o3 => (runO Try.prog (T_tutorref04_Reach @l_tutorref03_Check @l_tutorref01_Join) cuts_tutorref04_Reach 0 (finish Try.prog Try.f48 0 K) fuel) (at' Try.f48 15) ⟨fr0 87 [(1, .ptr 0 0), (7, .own 1), (8, .own 2), (9, .nst 3), (11, .v (.int .i64 vuntil)), (12, .v (.int .i64 i)), (13, .v (.int .i64 x))], [.box 24 [.v (.int .i64 o0), .v (.int .i64 o0_1), .v (.int .i64 o0_2), .v (.int .i64 o0_3), .rd ⟨false, 3, (.int .i64), o0_4⟩, .rd ⟨false, 3, (.int .i64), o0_5⟩], .row ⟨true, 4, .bool, o1⟩, .row ⟨true, 3, (.int .i64), o2⟩, .nst ⟨true, 22, (.sl 3 (.int .i64)), o3⟩]⟩) (fun r0 r1 r2 => K (.tup [.own 0, .nst 1, .v (.int .i64 r0)]) [.row ⟨true, 3, (.int .i64), r1⟩, .nst ⟨true, 22, (.sl 3 (.int .i64)), r2⟩]) m m_1 m_2 m_3 m_4 m_5 := by kernel_rfl

theorem entry_tutorref04_Reach {R : Type} (fuel : Nat) (K : AV → List O → Option R) (m : Int) (m_1 : Int) (m_2 : Int) (m_3 : Int) (m_4 : List Int) (m_5 : List Int) :
    fnRun Try.prog (T_tutorref04_Reach @l_tutorref03_Check @l_tutorref01_Join) cuts_tutorref04_Reach Try.f48 fuel [.agg [.v (.int .i64 m), .v (.int .i64 m_1), .v (.int .i64 m_2), .v (.int .i64 m_3), .rd ⟨false, 3, (.int .i64), m_4⟩, .rd ⟨false, 3, (.int .i64), m_5⟩]] [] K =
    e_tutorref04_Reach (fun vfrom o0 o0_1 o0_2 o0_3 o0_4 o0_5 o1 o2 o3 => (runO Try.prog (T_tutorref04_Reach @l_tutorref03_Check @l_tutorref01_Join) cuts_tutorref04_Reach 0 (finish Try.prog Try.f48 0 K) fuel) (at' Try.f48 9) ⟨fr0 87 [(1, .ptr 0 0), (7, .own 1), (8, .own 2), (9, .nst 3), (10, .v (.int .i64 vfrom))], [.box 24 [.v (.int .i64 o0), .v (.int .i64 o0_1), .v (.int .i64 o0_2), .v (.int .i64 o0_3), .rd ⟨false, 3, (.int .i64), o0_4⟩, .rd ⟨false, 3, (.int .i64), o0_5⟩], .row ⟨true, 4, .bool, o1⟩, .row ⟨true, 3, (.int .i64), o2⟩, .nst ⟨true, 22, (.sl 3 (.int .i64)), o3⟩]⟩) (fun vuntil i o0 o0_1 o0_2 o0_3 o0_4 o0_5 o1 o2 o3 => (runO Try.prog (T_tutorref04_Reach @l_tutorref03_Check @l_tutorref01_Join) cuts_tutorref04_Reach 0 (finish Try.prog Try.f48 0 K) fuel) (at' Try.f48 12) ⟨fr0 87 [(1, .ptr 0 0), (7, .own 1), (8, .own 2), (9, .nst 3), (11, .v (.int .i64 vuntil)), (12, .v (.int .i64 i))], [.box 24 [.v (.int .i64 o0), .v (.int .i64 o0_1), .v (.int .i64 o0_2), .v (.int .i64 o0_3), .rd ⟨false, 3, (.int .i64), o0_4⟩, .rd ⟨false, 3, (.int .i64), o0_5⟩], .row ⟨true, 4, .bool, o1⟩, .row ⟨true, 3, (.int .i64), o2⟩, .nst ⟨true, 22, (.sl 3 (.int .i64)), o3⟩]⟩) (fun vuntil i x o0 o0_1 o0_2 o0_3 o0_4 o0_5 o1 o2 o3 => (runO Try.prog (T_tutorref04_Reach @l_tutorref03_Check @l_tutorref01_Join) cuts_tutorref04_Reach 0 (finish Try.prog Try.f48 0 K) fuel) (at' Try.f48 15) ⟨fr0 87 [(1, .ptr 0 0), (7, .own 1), (8, .own 2), (9, .nst 3), (11, .v (.int .i64 vuntil)), (12, .v (.int .i64 i)), (13, .v (.int .i64 x))], [.box 24 [.v (.int .i64 o0), .v (.int .i64 o0_1), .v (.int .i64 o0_2), .v (.int .i64 o0_3), .rd ⟨false, 3, (.int .i64), o0_4⟩, .rd ⟨false, 3, (.int .i64), o0_5⟩], .row ⟨true, 4, .bool, o1⟩, .row ⟨true, 3, (.int .i64), o2⟩, .nst ⟨true, 22, (.sl 3 (.int .i64)), o3⟩]⟩) (fun r0 r1 r2 => K (.tup [.own 0, .nst 1, .v (.int .i64 r0)]) [.row ⟨true, 3, (.int .i64), r1⟩, .nst ⟨true, 22, (.sl 3 (.int .i64)), r2⟩]) m m_1 m_2 m_3 m_4 m_5 := gentry_tutorref04_Reach @l_tutorref03_Check @l_tutorref01_Join fuel K m m_1 m_2 m_3 m_4 m_5

theorem runs_tutorref04_Reach {R : Type} (K : AV → List O → Option R) : ∀ fuel : Nat,
    (fun vfrom o0 o0_1 o0_2 o0_3 o0_4 o0_5 o1 o2 o3 => (runO Try.prog (T_tutorref04_Reach @l_tutorref03_Check @l_tutorref01_Join) cuts_tutorref04_Reach 0 (finish Try.prog Try.f48 0 K) fuel) (at' Try.f48 9) ⟨fr0 87 [(1, .ptr 0 0), (7, .own 1), (8, .own 2), (9, .nst 3), (10, .v (.int .i64 vfrom))], [.box 24 [.v (.int .i64 o0), .v (.int .i64 o0_1), .v (.int .i64 o0_2), .v (.int .i64 o0_3), .rd ⟨false, 3, (.int .i64), o0_4⟩, .rd ⟨false, 3, (.int .i64), o0_5⟩], .row ⟨true, 4, .bool, o1⟩, .row ⟨true, 3, (.int .i64), o2⟩, .nst ⟨true, 22, (.sl 3 (.int .i64)), o3⟩]⟩) = (run_tutorref04_Reach (fun r0 r1 r2 => K (.tup [.own 0, .nst 1, .v (.int .i64 r0)]) [.row ⟨true, 3, (.int .i64), r1⟩, .nst ⟨true, 22, (.sl 3 (.int .i64)), r2⟩]) fuel).1 ∧
    (fun vuntil i o0 o0_1 o0_2 o0_3 o0_4 o0_5 o1 o2 o3 => (runO Try.prog (T_tutorref04_Reach @l_tutorref03_Check @l_tutorref01_Join) cuts_tutorref04_Reach 0 (finish Try.prog Try.f48 0 K) fuel) (at' Try.f48 12) ⟨fr0 87 [(1, .ptr 0 0), (7, .own 1), (8, .own 2), (9, .nst 3), (11, .v (.int .i64 vuntil)), (12, .v (.int .i64 i))], [.box 24 [.v (.int .i64 o0), .v (.int .i64 o0_1), .v (.int .i64 o0_2), .v (.int .i64 o0_3), .rd ⟨false, 3, (.int .i64), o0_4⟩, .rd ⟨false, 3, (.int .i64), o0_5⟩], .row ⟨true, 4, .bool, o1⟩, .row ⟨true, 3, (.int .i64), o2⟩, .nst ⟨true, 22, (.sl 3 (.int .i64)), o3⟩]⟩) = (run_tutorref04_Reach (fun r0 r1 r2 => K (.tup [.own 0, .nst 1, .v (.int .i64 r0)]) [.row ⟨true, 3, (.int .i64), r1⟩, .nst ⟨true, 22, (.sl 3 (.int .i64)), r2⟩]) fuel).2.1 ∧
    (fun vuntil i x o0 o0_1 o0_2 o0_3 o0_4 o0_5 o1 o2 o3 => (runO Try.prog (T_tutorref04_Reach @l_tutorref03_Check @l_tutorref01_Join) cuts_tutorref04_Reach 0 (finish Try.prog Try.f48 0 K) fuel) (at' Try.f48 15) ⟨fr0 87 [(1, .ptr 0 0), (7, .own 1), (8, .own 2), (9, .nst 3), (11, .v (.int .i64 vuntil)), (12, .v (.int .i64 i)), (13, .v (.int .i64 x))], [.box 24 [.v (.int .i64 o0), .v (.int .i64 o0_1), .v (.int .i64 o0_2), .v (.int .i64 o0_3), .rd ⟨false, 3, (.int .i64), o0_4⟩, .rd ⟨false, 3, (.int .i64), o0_5⟩], .row ⟨true, 4, .bool, o1⟩, .row ⟨true, 3, (.int .i64), o2⟩, .nst ⟨true, 22, (.sl 3 (.int .i64)), o3⟩]⟩) = (run_tutorref04_Reach (fun r0 r1 r2 => K (.tup [.own 0, .nst 1, .v (.int .i64 r0)]) [.row ⟨true, 3, (.int .i64), r1⟩, .nst ⟨true, 22, (.sl 3 (.int .i64)), r2⟩]) fuel).2.2
  | 0 => ⟨rfl, rfl, rfl⟩
  | fuel + 1 => by
    have ih := runs_tutorref04_Reach K fuel
    refine ⟨?_, ?_, ?_⟩
    · funext vfrom o0 o0_1 o0_2 o0_3 o0_4 o0_5 o1 o2 o3
      refine (step_tutorref04_Reach_9 _ K vfrom o0 o0_1 o0_2 o0_3 o0_4 o0_5 o1 o2 o3).trans ?_
      rw [ih.1, ih.2.1, ih.2.2]
      rfl
    · funext vuntil i o0 o0_1 o0_2 o0_3 o0_4 o0_5 o1 o2 o3
      refine (step_tutorref04_Reach_12 _ K vuntil i o0 o0_1 o0_2 o0_3 o0_4 o0_5 o1 o2 o3).trans ?_
      rw [ih.1, ih.2.1, ih.2.2]
      rfl
    · funext vuntil i x o0 o0_1 o0_2 o0_3 o0_4 o0_5 o1 o2 o3
      refine (step_tutorref04_Reach_15 _ K vuntil i x o0 o0_1 o0_2 o0_3 o0_4 o0_5 o1 o2 o3).trans ?_
      rw [ih.1, ih.2.1, ih.2.2]
      rfl

def S_tutorref04_Reach (l_tutorref04_Reach : {R : Type} → Int → Int → Int → Int → (List Int) → (List Int) → (Int → (List Int) → (List (List Int)) → Option R) → Option R) : Sum := ⟨[], fun {R} args ob K => match args, ob with
  | [.agg [.v (.int .i64 m), .v (.int .i64 m_1), .v (.int .i64 m_2), .v (.int .i64 m_3), .rd ⟨false, 3, (.int .i64), m_4⟩, .rd ⟨false, 3, (.int .i64), m_5⟩]], [] => l_tutorref04_Reach m m_1 m_2 m_3 m_4 m_5 (fun r0 r1 r2 => K (.tup [.own 0, .nst 1, .v (.int .i64 r0)]) [.row ⟨true, 3, (.int .i64), r1⟩, .nst ⟨true, 22, (.sl 3 (.int .i64)), r2⟩])
  | _, _ => none⟩

theorem sound_tutorref04_Reach : Sound Try.prog 48 (S_tutorref04_Reach @l_tutorref04_Reach) := by
  refine fn_sound (cuts := cuts_tutorref04_Reach) (fn := Try.f48) (Γ := (T_tutorref04_Reach @l_tutorref03_Check @l_tutorref01_Join)) wide right_T_tutorref04_Reach Try.func48 fun {R} K r args ob h => ?_
  unfold S_tutorref04_Reach at h
  dsimp only at h
  split at h
  · obtain ⟨n, hn⟩ := ok_tutorref04_Reach _ _ _ _ _ _ _ h
    refine ⟨Nat.le_of_ble_eq_true (by kernel_rfl), n, (entry_tutorref04_Reach n K _ _ _ _ _ _).trans ?_⟩
    rw [(runs_tutorref04_Reach K n).1, (runs_tutorref04_Reach K n).2.1, (runs_tutorref04_Reach K n).2.2]
    exact hn
  · cases h

theorem call_tutorref04_Reach : Callable Try.prog 48 := ⟨_, Try.func48, by kernel_rfl, by kernel_rfl⟩

def T_tutorref04_pick : FuncId → Option Sum := G0

theorem right_T_tutorref04_pick : Right Try.prog T_tutorref04_pick := right_G0

abbrev cuts_tutorref04_pick : Cuts := [(3, [1, 2, 3, 6, 7, 8]), (7, [1, 2, 3, 6, 7, 8, 9, 10])]

theorem gstep_tutorref04_pick_3 {R : Type} (g : List Item → St → Option R) (K : AV → List O → Option R) (states : List Int) (place : List Int) (i : Int) (o0 : Int) (o0_1 : Int) (o0_2 : Int) (o0_3 : Int) (o0_4 : List Int) (o0_5 : List Int) (o1 : Int) (o1_1 : Int) (o1_2 : Int) (o1_3 : Int) (o2 : List Int) (o3 : List Int) (o4 : Int) (o4_1 : Int) (o4_2 : Int) (o4_3 : Int) (o5 : List Int) (o6 : List Int) :
    runSeg Try.prog T_tutorref04_pick cuts_tutorref04_pick 0 g (finish Try.prog Try.f49 0 K) (at' Try.f49 3) ⟨fr0 86 [(1, .rd ⟨false, 3, (.int .i64), states⟩), (2, .rd ⟨false, 3, (.int .i64), place⟩), (3, .ptr 0 0), (6, .ptr 1 0), (7, .ptr 4 0), (8, .v (.int .i64 i))], [.box 24 [.v (.int .i64 o0), .v (.int .i64 o0_1), .v (.int .i64 o0_2), .v (.int .i64 o0_3), .rd ⟨false, 3, (.int .i64), o0_4⟩, .rd ⟨false, 3, (.int .i64), o0_5⟩], .box 24 [.v (.int .i64 o1), .v (.int .i64 o1_1), .v (.int .i64 o1_2), .v (.int .i64 o1_3), .own 2, .own 3], .row ⟨true, 3, (.int .i64), o2⟩, .row ⟨true, 3, (.int .i64), o3⟩, .box 24 [.v (.int .i64 o4), .v (.int .i64 o4_1), .v (.int .i64 o4_2), .v (.int .i64 o4_3), .own 5, .own 6], .row ⟨true, 3, (.int .i64), o5⟩, .row ⟨true, 3, (.int .i64), o6⟩]⟩ =
    (fun (g49_3 : (List Int) → (List Int) → Int → Int → Int → Int → Int → (List Int) → (List Int) → Int → Int → Int → Int → (List Int) → (List Int) → Int → Int → Int → Int → (List Int) → (List Int) → Option R) (g49_7 : (List Int) → (List Int) → Int → Int → Int → Int → Int → Int → Int → (List Int) → (List Int) → Int → Int → Int → Int → (List Int) → (List Int) → Int → Int → Int → Int → (List Int) → (List Int) → Option R) (K0 : Int → Int → Int → Int → (List Int) → (List Int) → Option R) (states : List Int) (place : List Int) (i : Int) (o0 : Int) (o0_1 : Int) (o0_2 : Int) (o0_3 : Int) (o0_4 : List Int) (o0_5 : List Int) (o1 : Int) (o1_1 : Int) (o1_2 : Int) (o1_3 : Int) (o2 : List Int) (o3 : List Int) (o4 : Int) (o4_1 : Int) (o4_2 : Int) (o4_3 : Int) (o5 : List Int) (o6 : List Int) =>
    bi (decide (i < (states.length : Int)))
     (bi (decide (0 ≤ i ∧ i < ((states.length : Nat) : Int)))
      (g49_7 states place i (states.getD i.toNat 0) 0 o0 o0_1 o0_2 o0_3 o0_4 o0_5 o1 o1_1 o1_2 o1_3 o2 o3 o4 o4_1 o4_2 o4_3 o5 o6)
      none)
     (K0 o4 o4_1 o4_2 o4_3 o5 o6)) (fun states place i o0 o0_1 o0_2 o0_3 o0_4 o0_5 o1 o1_1 o1_2 o1_3 o2 o3 o4 o4_1 o4_2 o4_3 o5 o6 => g (at' Try.f49 3) ⟨fr0 86 [(1, .rd ⟨false, 3, (.int .i64), states⟩), (2, .rd ⟨false, 3, (.int .i64), place⟩), (3, .ptr 0 0), (6, .ptr 1 0), (7, .ptr 4 0), (8, .v (.int .i64 i))], [.box 24 [.v (.int .i64 o0), .v (.int .i64 o0_1), .v (.int .i64 o0_2), .v (.int .i64 o0_3), .rd ⟨false, 3, (.int .i64), o0_4⟩, .rd ⟨false, 3, (.int .i64), o0_5⟩], .box 24 [.v (.int .i64 o1), .v (.int .i64 o1_1), .v (.int .i64 o1_2), .v (.int .i64 o1_3), .own 2, .own 3], .row ⟨true, 3, (.int .i64), o2⟩, .row ⟨true, 3, (.int .i64), o3⟩, .box 24 [.v (.int .i64 o4), .v (.int .i64 o4_1), .v (.int .i64 o4_2), .v (.int .i64 o4_3), .own 5, .own 6], .row ⟨true, 3, (.int .i64), o5⟩, .row ⟨true, 3, (.int .i64), o6⟩]⟩) (fun states place i s x o0 o0_1 o0_2 o0_3 o0_4 o0_5 o1 o1_1 o1_2 o1_3 o2 o3 o4 o4_1 o4_2 o4_3 o5 o6 => g (at' Try.f49 7) ⟨fr0 86 [(1, .rd ⟨false, 3, (.int .i64), states⟩), (2, .rd ⟨false, 3, (.int .i64), place⟩), (3, .ptr 0 0), (6, .ptr 1 0), (7, .ptr 4 0), (8, .v (.int .i64 i)), (9, .v (.int .i64 s)), (10, .v (.int .i64 x))], [.box 24 [.v (.int .i64 o0), .v (.int .i64 o0_1), .v (.int .i64 o0_2), .v (.int .i64 o0_3), .rd ⟨false, 3, (.int .i64), o0_4⟩, .rd ⟨false, 3, (.int .i64), o0_5⟩], .box 24 [.v (.int .i64 o1), .v (.int .i64 o1_1), .v (.int .i64 o1_2), .v (.int .i64 o1_3), .own 2, .own 3], .row ⟨true, 3, (.int .i64), o2⟩, .row ⟨true, 3, (.int .i64), o3⟩, .box 24 [.v (.int .i64 o4), .v (.int .i64 o4_1), .v (.int .i64 o4_2), .v (.int .i64 o4_3), .own 5, .own 6], .row ⟨true, 3, (.int .i64), o5⟩, .row ⟨true, 3, (.int .i64), o6⟩]⟩) (fun r0 r1 r2 r3 r4 r5 => K (.agg [.v (.int .i64 r0), .v (.int .i64 r1), .v (.int .i64 r2), .v (.int .i64 r3), .own 0, .own 1]) [.row ⟨true, 3, (.int .i64), r4⟩, .row ⟨true, 3, (.int .i64), r5⟩]) states place i o0 o0_1 o0_2 o0_3 o0_4 o0_5 o1 o1_1 o1_2 o1_3 o2 o3 o4 o4_1 o4_2 o4_3 o5 o6 := by kernel_rfl

theorem step_tutorref04_pick_3 {R : Type} (g : List Item → St → Option R) (K : AV → List O → Option R) (states : List Int) (place : List Int) (i : Int) (o0 : Int) (o0_1 : Int) (o0_2 : Int) (o0_3 : Int) (o0_4 : List Int) (o0_5 : List Int) (o1 : Int) (o1_1 : Int) (o1_2 : Int) (o1_3 : Int) (o2 : List Int) (o3 : List Int) (o4 : Int) (o4_1 : Int) (o4_2 : Int) (o4_3 : Int) (o5 : List Int) (o6 : List Int) :
    runSeg Try.prog T_tutorref04_pick cuts_tutorref04_pick 0 g (finish Try.prog Try.f49 0 K) (at' Try.f49 3) ⟨fr0 86 [(1, .rd ⟨false, 3, (.int .i64), states⟩), (2, .rd ⟨false, 3, (.int .i64), place⟩), (3, .ptr 0 0), (6, .ptr 1 0), (7, .ptr 4 0), (8, .v (.int .i64 i))], [.box 24 [.v (.int .i64 o0), .v (.int .i64 o0_1), .v (.int .i64 o0_2), .v (.int .i64 o0_3), .rd ⟨false, 3, (.int .i64), o0_4⟩, .rd ⟨false, 3, (.int .i64), o0_5⟩], .box 24 [.v (.int .i64 o1), .v (.int .i64 o1_1), .v (.int .i64 o1_2), .v (.int .i64 o1_3), .own 2, .own 3], .row ⟨true, 3, (.int .i64), o2⟩, .row ⟨true, 3, (.int .i64), o3⟩, .box 24 [.v (.int .i64 o4), .v (.int .i64 o4_1), .v (.int .i64 o4_2), .v (.int .i64 o4_3), .own 5, .own 6], .row ⟨true, 3, (.int .i64), o5⟩, .row ⟨true, 3, (.int .i64), o6⟩]⟩ =
    s_tutorref04_pick_3 (fun states place i o0 o0_1 o0_2 o0_3 o0_4 o0_5 o1 o1_1 o1_2 o1_3 o2 o3 o4 o4_1 o4_2 o4_3 o5 o6 => g (at' Try.f49 3) ⟨fr0 86 [(1, .rd ⟨false, 3, (.int .i64), states⟩), (2, .rd ⟨false, 3, (.int .i64), place⟩), (3, .ptr 0 0), (6, .ptr 1 0), (7, .ptr 4 0), (8, .v (.int .i64 i))], [.box 24 [.v (.int .i64 o0), .v (.int .i64 o0_1), .v (.int .i64 o0_2), .v (.int .i64 o0_3), .rd ⟨false, 3, (.int .i64), o0_4⟩, .rd ⟨false, 3, (.int .i64), o0_5⟩], .box 24 [.v (.int .i64 o1), .v (.int .i64 o1_1), .v (.int .i64 o1_2), .v (.int .i64 o1_3), .own 2, .own 3], .row ⟨true, 3, (.int .i64), o2⟩, .row ⟨true, 3, (.int .i64), o3⟩, .box 24 [.v (.int .i64 o4), .v (.int .i64 o4_1), .v (.int .i64 o4_2), .v (.int .i64 o4_3), .own 5, .own 6], .row ⟨true, 3, (.int .i64), o5⟩, .row ⟨true, 3, (.int .i64), o6⟩]⟩) (fun states place i s x o0 o0_1 o0_2 o0_3 o0_4 o0_5 o1 o1_1 o1_2 o1_3 o2 o3 o4 o4_1 o4_2 o4_3 o5 o6 => g (at' Try.f49 7) ⟨fr0 86 [(1, .rd ⟨false, 3, (.int .i64), states⟩), (2, .rd ⟨false, 3, (.int .i64), place⟩), (3, .ptr 0 0), (6, .ptr 1 0), (7, .ptr 4 0), (8, .v (.int .i64 i)), (9, .v (.int .i64 s)), (10, .v (.int .i64 x))], [.box 24 [.v (.int .i64 o0), .v (.int .i64 o0_1), .v (.int .i64 o0_2), .v (.int .i64 o0_3), .rd ⟨false, 3, (.int .i64), o0_4⟩, .rd ⟨false, 3, (.int .i64), o0_5⟩], .box 24 [.v (.int .i64 o1), .v (.int .i64 o1_1), .v (.int .i64 o1_2), .v (.int .i64 o1_3), .own 2, .own 3], .row ⟨true, 3, (.int .i64), o2⟩, .row ⟨true, 3, (.int .i64), o3⟩, .box 24 [.v (.int .i64 o4), .v (.int .i64 o4_1), .v (.int .i64 o4_2), .v (.int .i64 o4_3), .own 5, .own 6], .row ⟨true, 3, (.int .i64), o5⟩, .row ⟨true, 3, (.int .i64), o6⟩]⟩) (fun r0 r1 r2 r3 r4 r5 => K (.agg [.v (.int .i64 r0), .v (.int .i64 r1), .v (.int .i64 r2), .v (.int .i64 r3), .own 0, .own 1]) [.row ⟨true, 3, (.int .i64), r4⟩, .row ⟨true, 3, (.int .i64), r5⟩]) states place i o0 o0_1 o0_2 o0_3 o0_4 o0_5 o1 o1_1 o1_2 o1_3 o2 o3 o4 o4_1 o4_2 o4_3 o5 o6 := gstep_tutorref04_pick_3 g K states place i o0 o0_1 o0_2 o0_3 o0_4 o0_5 o1 o1_1 o1_2 o1_3 o2 o3 o4 o4_1 o4_2 o4_3 o5 o6

theorem gstep_tutorref04_pick_7 {R : Type} (g : List Item → St → Option R) (K : AV → List O → Option R) (states : List Int) (place : List Int) (i : Int) (s : Int) (x : Int) (o0 : Int) (o0_1 : Int) (o0_2 : Int) (o0_3 : Int) (o0_4 : List Int) (o0_5 : List Int) (o1 : Int) (o1_1 : Int) (o1_2 : Int) (o1_3 : Int) (o2 : List Int) (o3 : List Int) (o4 : Int) (o4_1 : Int) (o4_2 : Int) (o4_3 : Int) (o5 : List Int) (o6 : List Int) :
    runSeg Try.prog T_tutorref04_pick cuts_tutorref04_pick 0 g (finish Try.prog Try.f49 0 K) (at' Try.f49 7) ⟨fr0 86 [(1, .rd ⟨false, 3, (.int .i64), states⟩), (2, .rd ⟨false, 3, (.int .i64), place⟩), (3, .ptr 0 0), (6, .ptr 1 0), (7, .ptr 4 0), (8, .v (.int .i64 i)), (9, .v (.int .i64 s)), (10, .v (.int .i64 x))], [.box 24 [.v (.int .i64 o0), .v (.int .i64 o0_1), .v (.int .i64 o0_2), .v (.int .i64 o0_3), .rd ⟨false, 3, (.int .i64), o0_4⟩, .rd ⟨false, 3, (.int .i64), o0_5⟩], .box 24 [.v (.int .i64 o1), .v (.int .i64 o1_1), .v (.int .i64 o1_2), .v (.int .i64 o1_3), .own 2, .own 3], .row ⟨true, 3, (.int .i64), o2⟩, .row ⟨true, 3, (.int .i64), o3⟩, .box 24 [.v (.int .i64 o4), .v (.int .i64 o4_1), .v (.int .i64 o4_2), .v (.int .i64 o4_3), .own 5, .own 6], .row ⟨true, 3, (.int .i64), o5⟩, .row ⟨true, 3, (.int .i64), o6⟩]⟩ =
    (fun (g49_3 : (List Int) → (List Int) → Int → Int → Int → Int → Int → (List Int) → (List Int) → Int → Int → Int → Int → (List Int) → (List Int) → Int → Int → Int → Int → (List Int) → (List Int) → Option R) (g49_7 : (List Int) → (List Int) → Int → Int → Int → Int → Int → Int → Int → (List Int) → (List Int) → Int → Int → Int → Int → (List Int) → (List Int) → Int → Int → Int → Int → (List Int) → (List Int) → Option R) (K0 : Int → Int → Int → Int → (List Int) → (List Int) → Option R) (states : List Int) (place : List Int) (i : Int) (s : Int) (x : Int) (o0 : Int) (o0_1 : Int) (o0_2 : Int) (o0_3 : Int) (o0_4 : List Int) (o0_5 : List Int) (o1 : Int) (o1_1 : Int) (o1_2 : Int) (o1_3 : Int) (o2 : List Int) (o3 : List Int) (o4 : Int) (o4_1 : Int) (o4_2 : Int) (o4_3 : Int) (o5 : List Int) (o6 : List Int) =>
    bi (decide (x < o0_1))
     (bi (decide (0 ≤ (IntKind.i64.wrap ((IntKind.i64.wrap (s * o0_1)) + x)) ∧ (IntKind.i64.wrap ((IntKind.i64.wrap (s * o0_1)) + x)) < ((o0_4.length : Nat) : Int)))
      (bi (decide (0 ≤ (o0_4.getD ((IntKind.i64.wrap ((IntKind.i64.wrap (s * o0_1)) + x)).toNat) 0) ∧ (o0_4.getD ((IntKind.i64.wrap ((IntKind.i64.wrap (s * o0_1)) + x)).toNat) 0) < ((place.length : Nat) : Int)))
       (bi (decide ((o5.length + [place.getD ((o0_4.getD ((IntKind.i64.wrap ((IntKind.i64.wrap (s * o0_1)) + x)).toNat) 0).toNat) 0].length) * 8 ≤ lim))
        (bi (o0 == 2)
         (bi (decide (0 ≤ (IntKind.i64.wrap ((IntKind.i64.wrap (s * o0_1)) + x)) ∧ (IntKind.i64.wrap ((IntKind.i64.wrap (s * o0_1)) + x)) < ((o0_5.length : Nat) : Int)))
          (bi (decide ((o6.length + [o0_5.getD ((IntKind.i64.wrap ((IntKind.i64.wrap (s * o0_1)) + x)).toNat) 0].length) * 8 ≤ lim))
           (g49_7 states place i s (IntKind.i64.wrap (x + 1)) o0 o0_1 o0_2 o0_3 o0_4 o0_5 o1 o1_1 o1_2 o1_3 o2 o3 o4 o4_1 o4_2 o4_3 (o5 ++ [place.getD ((o0_4.getD ((IntKind.i64.wrap ((IntKind.i64.wrap (s * o0_1)) + x)).toNat) 0).toNat) 0]) (o6 ++ [o0_5.getD ((IntKind.i64.wrap ((IntKind.i64.wrap (s * o0_1)) + x)).toNat) 0]))
           none)
          none)
         (g49_7 states place i s (IntKind.i64.wrap (x + 1)) o0 o0_1 o0_2 o0_3 o0_4 o0_5 o1 o1_1 o1_2 o1_3 o2 o3 o4 o4_1 o4_2 o4_3 (o5 ++ [place.getD ((o0_4.getD ((IntKind.i64.wrap ((IntKind.i64.wrap (s * o0_1)) + x)).toNat) 0).toNat) 0]) o6))
        none)
       none)
      none)
     (bi (o0 == 1)
      (bi (decide (0 ≤ s ∧ s < ((o0_5.length : Nat) : Int)))
       (bi (decide ((o6.length + [o0_5.getD s.toNat 0].length) * 8 ≤ lim))
        (g49_3 states place (IntKind.i64.wrap (i + 1)) o0 o0_1 o0_2 o0_3 o0_4 o0_5 o1 o1_1 o1_2 o1_3 o2 o3 o4 o4_1 o4_2 o4_3 o5 (o6 ++ [o0_5.getD s.toNat 0]))
        none)
       none)
      (g49_3 states place (IntKind.i64.wrap (i + 1)) o0 o0_1 o0_2 o0_3 o0_4 o0_5 o1 o1_1 o1_2 o1_3 o2 o3 o4 o4_1 o4_2 o4_3 o5 o6))) (fun states place i o0 o0_1 o0_2 o0_3 o0_4 o0_5 o1 o1_1 o1_2 o1_3 o2 o3 o4 o4_1 o4_2 o4_3 o5 o6 => g (at' Try.f49 3) ⟨fr0 86 [(1, .rd ⟨false, 3, (.int .i64), states⟩), (2, .rd ⟨false, 3, (.int .i64), place⟩), (3, .ptr 0 0), (6, .ptr 1 0), (7, .ptr 4 0), (8, .v (.int .i64 i))], [.box 24 [.v (.int .i64 o0), .v (.int .i64 o0_1), .v (.int .i64 o0_2), .v (.int .i64 o0_3), .rd ⟨false, 3, (.int .i64), o0_4⟩, .rd ⟨false, 3, (.int .i64), o0_5⟩], .box 24 [.v (.int .i64 o1), .v (.int .i64 o1_1), .v (.int .i64 o1_2), .v (.int .i64 o1_3), .own 2, .own 3], .row ⟨true, 3, (.int .i64), o2⟩, .row ⟨true, 3, (.int .i64), o3⟩, .box 24 [.v (.int .i64 o4), .v (.int .i64 o4_1), .v (.int .i64 o4_2), .v (.int .i64 o4_3), .own 5, .own 6], .row ⟨true, 3, (.int .i64), o5⟩, .row ⟨true, 3, (.int .i64), o6⟩]⟩) (fun states place i s x o0 o0_1 o0_2 o0_3 o0_4 o0_5 o1 o1_1 o1_2 o1_3 o2 o3 o4 o4_1 o4_2 o4_3 o5 o6 => g (at' Try.f49 7) ⟨fr0 86 [(1, .rd ⟨false, 3, (.int .i64), states⟩), (2, .rd ⟨false, 3, (.int .i64), place⟩), (3, .ptr 0 0), (6, .ptr 1 0), (7, .ptr 4 0), (8, .v (.int .i64 i)), (9, .v (.int .i64 s)), (10, .v (.int .i64 x))], [.box 24 [.v (.int .i64 o0), .v (.int .i64 o0_1), .v (.int .i64 o0_2), .v (.int .i64 o0_3), .rd ⟨false, 3, (.int .i64), o0_4⟩, .rd ⟨false, 3, (.int .i64), o0_5⟩], .box 24 [.v (.int .i64 o1), .v (.int .i64 o1_1), .v (.int .i64 o1_2), .v (.int .i64 o1_3), .own 2, .own 3], .row ⟨true, 3, (.int .i64), o2⟩, .row ⟨true, 3, (.int .i64), o3⟩, .box 24 [.v (.int .i64 o4), .v (.int .i64 o4_1), .v (.int .i64 o4_2), .v (.int .i64 o4_3), .own 5, .own 6], .row ⟨true, 3, (.int .i64), o5⟩, .row ⟨true, 3, (.int .i64), o6⟩]⟩) (fun r0 r1 r2 r3 r4 r5 => K (.agg [.v (.int .i64 r0), .v (.int .i64 r1), .v (.int .i64 r2), .v (.int .i64 r3), .own 0, .own 1]) [.row ⟨true, 3, (.int .i64), r4⟩, .row ⟨true, 3, (.int .i64), r5⟩]) states place i s x o0 o0_1 o0_2 o0_3 o0_4 o0_5 o1 o1_1 o1_2 o1_3 o2 o3 o4 o4_1 o4_2 o4_3 o5 o6 := by kernel_rfl

theorem step_tutorref04_pick_7 {R : Type} (g : List Item → St → Option R) (K : AV → List O → Option R) (states : List Int) (place : List Int) (i : Int) (s : Int) (x : Int) (o0 : Int) (o0_1 : Int) (o0_2 : Int) (o0_3 : Int) (o0_4 : List Int) (o0_5 : List Int) (o1 : Int) (o1_1 : Int) (o1_2 : Int) (o1_3 : Int) (o2 : List Int) (o3 : List Int) (o4 : Int) (o4_1 : Int) (o4_2 : Int) (o4_3 : Int) (o5 : List Int) (o6 : List Int) :
    runSeg Try.prog T_tutorref04_pick cuts_tutorref04_pick 0 g (finish Try.prog Try.f49 0 K) (at' Try.f49 7) ⟨fr0 86 [(1, .rd ⟨false, 3, (.int .i64), states⟩), (2, .rd ⟨false, 3, (.int .i64), place⟩), (3, .ptr 0 0), (6, .ptr 1 0), (7, .ptr 4 0), (8, .v (.int .i64 i)), (9, .v (.int .i64 s)), (10, .v (.int .i64 x))], [.box 24 [.v (.int .i64 o0), .v (.int .i64 o0_1), .v (.int .i64 o0_2), .v (.int .i64 o0_3), .rd ⟨false, 3, (.int .i64), o0_4⟩, .rd ⟨false, 3, (.int .i64), o0_5⟩], .box 24 [.v (.int .i64 o1), .v (.int .i64 o1_1), .v (.int .i64 o1_2), .v (.int .i64 o1_3), .own 2, .own 3], .row ⟨true, 3, (.int .i64), o2⟩, .row ⟨true, 3, (.int .i64), o3⟩, .box 24 [.v (.int .i64 o4), .v (.int .i64 o4_1), .v (.int .i64 o4_2), .v (.int .i64 o4_3), .own 5, .own 6], .row ⟨true, 3, (.int .i64), o5⟩, .row ⟨true, 3, (.int .i64), o6⟩]⟩ =
    s_tutorref04_pick_7 (fun states place i o0 o0_1 o0_2 o0_3 o0_4 o0_5 o1 o1_1 o1_2 o1_3 o2 o3 o4 o4_1 o4_2 o4_3 o5 o6 => g (at' Try.f49 3) ⟨fr0 86 [(1, .rd ⟨false, 3, (.int .i64), states⟩), (2, .rd ⟨false, 3, (.int .i64), place⟩), (3, .ptr 0 0), (6, .ptr 1 0), (7, .ptr 4 0), (8, .v (.int .i64 i))], [.box 24 [.v (.int .i64 o0), .v (.int .i64 o0_1), .v (.int .i64 o0_2), .v (.int .i64 o0_3), .rd ⟨false, 3, (.int .i64), o0_4⟩, .rd ⟨false, 3, (.int .i64), o0_5⟩], .box 24 [.v (.int .i64 o1), .v (.int .i64 o1_1), .v (.int .i64 o1_2), .v (.int .i64 o1_3), .own 2, .own 3], .row ⟨true, 3, (.int .i64), o2⟩, .row ⟨true, 3, (.int .i64), o3⟩, .box 24 [.v (.int .i64 o4), .v (.int .i64 o4_1), .v (.int .i64 o4_2), .v (.int .i64 o4_3), .own 5, .own 6], .row ⟨true, 3, (.int .i64), o5⟩, .row ⟨true, 3, (.int .i64), o6⟩]⟩) (fun states place i s x o0 o0_1 o0_2 o0_3 o0_4 o0_5 o1 o1_1 o1_2 o1_3 o2 o3 o4 o4_1 o4_2 o4_3 o5 o6 => g (at' Try.f49 7) ⟨fr0 86 [(1, .rd ⟨false, 3, (.int .i64), states⟩), (2, .rd ⟨false, 3, (.int .i64), place⟩), (3, .ptr 0 0), (6, .ptr 1 0), (7, .ptr 4 0), (8, .v (.int .i64 i)), (9, .v (.int .i64 s)), (10, .v (.int .i64 x))], [.box 24 [.v (.int .i64 o0), .v (.int .i64 o0_1), .v (.int .i64 o0_2), .v (.int .i64 o0_3), .rd ⟨false, 3, (.int .i64), o0_4⟩, .rd ⟨false, 3, (.int .i64), o0_5⟩], .box 24 [.v (.int .i64 o1), .v (.int .i64 o1_1), .v (.int .i64 o1_2), .v (.int .i64 o1_3), .own 2, .own 3], .row ⟨true, 3, (.int .i64), o2⟩, .row ⟨true, 3, (.int .i64), o3⟩, .box 24 [.v (.int .i64 o4), .v (.int .i64 o4_1), .v (.int .i64 o4_2), .v (.int .i64 o4_3), .own 5, .own 6], .row ⟨true, 3, (.int .i64), o5⟩, .row ⟨true, 3, (.int .i64), o6⟩]⟩) (fun r0 r1 r2 r3 r4 r5 => K (.agg [.v (.int .i64 r0), .v (.int .i64 r1), .v (.int .i64 r2), .v (.int .i64 r3), .own 0, .own 1]) [.row ⟨true, 3, (.int .i64), r4⟩, .row ⟨true, 3, (.int .i64), r5⟩]) states place i s x o0 o0_1 o0_2 o0_3 o0_4 o0_5 o1 o1_1 o1_2 o1_3 o2 o3 o4 o4_1 o4_2 o4_3 o5 o6 := gstep_tutorref04_pick_7 g K states place i s x o0 o0_1 o0_2 o0_3 o0_4 o0_5 o1 o1_1 o1_2 o1_3 o2 o3 o4 o4_1 o4_2 o4_3 o5 o6

theorem gentry_tutorref04_pick {R : Type} (fuel : Nat) (K : AV → List O → Option R) (m : Int) (m_1 : Int) (m_2 : Int) (m_3 : Int) (m_4 : List Int) (m_5 : List Int) (states : List Int) (place : List Int) :
    fnRun Try.prog T_tutorref04_pick cuts_tutorref04_pick Try.f49 fuel [.agg [.v (.int .i64 m), .v (.int .i64 m_1), .v (.int .i64 m_2), .v (.int .i64 m_3), .rd ⟨false, 3, (.int .i64), m_4⟩, .rd ⟨false, 3, (.int .i64), m_5⟩], .rd ⟨false, 3, (.int .i64), states⟩, .rd ⟨false, 3, (.int .i64), place⟩] [] K =
    (fun (g49_3 : (List Int) → (List Int) → Int → Int → Int → Int → Int → (List Int) → (List Int) → Int → Int → Int → Int → (List Int) → (List Int) → Int → Int → Int → Int → (List Int) → (List Int) → Option R) (g49_7 : (List Int) → (List Int) → Int → Int → Int → Int → Int → Int → Int → (List Int) → (List Int) → Int → Int → Int → Int → (List Int) → (List Int) → Int → Int → Int → Int → (List Int) → (List Int) → Option R) (K0 : Int → Int → Int → Int → (List Int) → (List Int) → Option R) (m : Int) (m_1 : Int) (m_2 : Int) (m_3 : Int) (m_4 : List Int) (m_5 : List Int) (states : List Int) (place : List Int) =>
    g49_3 states place 0 m m_1 m_2 m_3 m_4 m_5 0 0 0 0 ([] : List Int) ([] : List Int) m m_1 m_2 (states.length : Int) ([] : List Int) ([] : List Int)) (fun states place i o0 o0_1 o0_2 o0_3 o0_4 o0_5 o1 o1_1 o1_2 o1_3 o2 o3 o4 o4_1 o4_2 o4_3 o5 o6 => (runO Try.prog T_tutorref04_pick cuts_tutorref04_pick 0 (finish Try.prog Try.f49 0 K) fuel) (at' Try.f49 3) ⟨fr0 86 [(1, .rd ⟨false, 3, (.int .i64), states⟩), (2, .rd ⟨false, 3, (.int .i64), place⟩), (3, .ptr 0 0), (6, .ptr 1 0), (7, .ptr 4 0), (8, .v (.int .i64 i))], [.box 24 [.v (.int .i64 o0), .v (.int .i64 o0_1), .v (.int .i64 o0_2), .v (.int .i64 o0_3), .rd ⟨false, 3, (.int .i64), o0_4⟩, .rd ⟨false, 3, (.int .i64), o0_5⟩], .box 24 [.v (.int .i64 o1), .v (.int .i64 o1_1), .v (.int .i64 o1_2), .v (.int .i64 o1_3), .own 2, .own 3], .row ⟨true, 3, (.int .i64), o2⟩, .row ⟨true, 3, (.int .i64), o3⟩, .box 24 [.v (.int .i64 o4), .v (.int .i64 o4_1), .v (.int .i64 o4_2), .v (.int .i64 o4_3), .own 5, .own 6], .row ⟨true, 3, (.int .i64), o5⟩, .row ⟨true, 3, (.int .i64), o6⟩]⟩) (fun states place i s x o0 o0_1 o0_2 o0_3 o0_4 o0_5 o1 o1_1 o1_2 o1_3 o2 o3 o4 o4_1 o4_2 o4_3 o5 o6 => (runO Try.prog T_tutorref04_pick cuts_tutorref04_pick 0 (finish Try.prog Try.f49 0 K) fuel) (at' Try.f49 7) ⟨fr0 86 [(1, .rd ⟨false, 3, (.int .i64), states⟩), (2, .rd ⟨false, 3, (.int .i64), place⟩), (3, .ptr 0 0), (6, .ptr 1 0), (7, .ptr 4 0), (8, .v (.int .i64 i)), (9, .v (.int .i64 s)), (10, .v (.int .i64 x))], [.box 24 [.v (.int .i64 o0), .v (.int .i64 o0_1), .v (.int .i64 o0_2), .v (.int .i64 o0_3), .rd ⟨false, 3, (.int .i64), o0_4⟩, .rd ⟨false, 3, (.int .i64), o0_5⟩], .box 24 [.v (.int .i64 o1), .v (.int .i64 o1_1), .v (.int .i64 o1_2), .v (.int .i64 o1_3), .own 2, .own 3], .row ⟨true, 3, (.int .i64), o2⟩, .row ⟨true, 3, (.int .i64), o3⟩, .box 24 [.v (.int .i64 o4), .v (.int .i64 o4_1), .v (.int .i64 o4_2), .v (.int .i64 o4_3), .own 5, .own 6], .row ⟨true, 3, (.int .i64), o5⟩, .row ⟨true, 3, (.int .i64), o6⟩]⟩) (fun r0 r1 r2 r3 r4 r5 => K (.agg [.v (.int .i64 r0), .v (.int .i64 r1), .v (.int .i64 r2), .v (.int .i64 r3), .own 0, .own 1]) [.row ⟨true, 3, (.int .i64), r4⟩, .row ⟨true, 3, (.int .i64), r5⟩]) m m_1 m_2 m_3 m_4 m_5 states place := by kernel_rfl

theorem entry_tutorref04_pick {R : Type} (fuel : Nat) (K : AV → List O → Option R) (m : Int) (m_1 : Int) (m_2 : Int) (m_3 : Int) (m_4 : List Int) (m_5 : List Int) (states : List Int) (place : List Int) :
    fnRun Try.prog T_tutorref04_pick cuts_tutorref04_pick Try.f49 fuel [.agg [.v (.int .i64 m), .v (.int .i64 m_1), .v (.int .i64 m_2), .v (.int .i64 m_3), .rd ⟨false, 3, (.int .i64), m_4⟩, .rd ⟨false, 3, (.int .i64), m_5⟩], .rd ⟨false, 3, (.int .i64), states⟩, .rd ⟨false, 3, (.int .i64), place⟩] [] K =
    e_tutorref04_pick (fun states place i o0 o0_1 o0_2 o0_3 o0_4 o0_5 o1 o1_1 o1_2 o1_3 o2 o3 o4 o4_1 o4_2 o4_3 o5 o6 => (runO Try.prog T_tutorref04_pick cuts_tutorref04_pick 0 (finish Try.prog Try.f49 0 K) fuel) (at' Try.f49 3) ⟨fr0 86 [(1, .rd ⟨false, 3, (.int .i64), states⟩), (2, .rd ⟨false, 3, (.int .i64), place⟩), (3, .ptr 0 0), (6, .ptr 1 0), (7, .ptr 4 0), (8, .v (.int .i64 i))], [.box 24 [.v (.int .i64 o0), .v (.int .i64 o0_1), .v (.int .i64 o0_2), .v (.int .i64 o0_3), .rd ⟨false, 3, (.int .i64), o0_4⟩, .rd ⟨false, 3, (.int .i64), o0_5⟩], .box 24 [.v (.int .i64 o1), .v (.int .i64 o1_1), .v (.int .i64 o1_2), .v (.int .i64 o1_3), .own 2, .own 3], .row ⟨true, 3, (.int .i64), o2⟩, .row ⟨true, 3, (.int .i64), o3⟩, .box 24 [.v (.int .i64 o4), .v (.int .i64 o4_1), .v (.int .i64 o4_2), .v (.int .i64 o4_3), .own 5, .own 6], .row ⟨true, 3, (.int .i64), o5⟩, .row ⟨true, 3, (.int .i64), o6⟩]⟩) (fun states place i s x o0 o0_1 o0_2 o0_3 o0_4 o0_5 o1 o1_1 o1_2 o1_3 o2 o3 o4 o4_1 o4_2 o4_3 o5 o6 => (runO Try.prog T_tutorref04_pick cuts_tutorref04_pick 0 (finish Try.prog Try.f49 0 K) fuel) (at' Try.f49 7) ⟨fr0 86 [(1, .rd ⟨false, 3, (.int .i64), states⟩), (2, .rd ⟨false, 3, (.int .i64), place⟩), (3, .ptr 0 0), (6, .ptr 1 0), (7, .ptr 4 0), (8, .v (.int .i64 i)), (9, .v (.int .i64 s)), (10, .v (.int .i64 x))], [.box 24 [.v (.int .i64 o0), .v (.int .i64 o0_1), .v (.int .i64 o0_2), .v (.int .i64 o0_3), .rd ⟨false, 3, (.int .i64), o0_4⟩, .rd ⟨false, 3, (.int .i64), o0_5⟩], .box 24 [.v (.int .i64 o1), .v (.int .i64 o1_1), .v (.int .i64 o1_2), .v (.int .i64 o1_3), .own 2, .own 3], .row ⟨true, 3, (.int .i64), o2⟩, .row ⟨true, 3, (.int .i64), o3⟩, .box 24 [.v (.int .i64 o4), .v (.int .i64 o4_1), .v (.int .i64 o4_2), .v (.int .i64 o4_3), .own 5, .own 6], .row ⟨true, 3, (.int .i64), o5⟩, .row ⟨true, 3, (.int .i64), o6⟩]⟩) (fun r0 r1 r2 r3 r4 r5 => K (.agg [.v (.int .i64 r0), .v (.int .i64 r1), .v (.int .i64 r2), .v (.int .i64 r3), .own 0, .own 1]) [.row ⟨true, 3, (.int .i64), r4⟩, .row ⟨true, 3, (.int .i64), r5⟩]) m m_1 m_2 m_3 m_4 m_5 states place := gentry_tutorref04_pick fuel K m m_1 m_2 m_3 m_4 m_5 states place

theorem runs_tutorref04_pick {R : Type} (K : AV → List O → Option R) : ∀ fuel : Nat,
    (fun states place i o0 o0_1 o0_2 o0_3 o0_4 o0_5 o1 o1_1 o1_2 o1_3 o2 o3 o4 o4_1 o4_2 o4_3 o5 o6 => (runO Try.prog T_tutorref04_pick cuts_tutorref04_pick 0 (finish Try.prog Try.f49 0 K) fuel) (at' Try.f49 3) ⟨fr0 86 [(1, .rd ⟨false, 3, (.int .i64), states⟩), (2, .rd ⟨false, 3, (.int .i64), place⟩), (3, .ptr 0 0), (6, .ptr 1 0), (7, .ptr 4 0), (8, .v (.int .i64 i))], [.box 24 [.v (.int .i64 o0), .v (.int .i64 o0_1), .v (.int .i64 o0_2), .v (.int .i64 o0_3), .rd ⟨false, 3, (.int .i64), o0_4⟩, .rd ⟨false, 3, (.int .i64), o0_5⟩], .box 24 [.v (.int .i64 o1), .v (.int .i64 o1_1), .v (.int .i64 o1_2), .v (.int .i64 o1_3), .own 2, .own 3], .row ⟨true, 3, (.int .i64), o2⟩, .row ⟨true, 3, (.int .i64), o3⟩, .box 24 [.v (.int .i64 o4), .v (.int .i64 o4_1), .v (.int .i64 o4_2), .v (.int .i64 o4_3), .own 5, .own 6], .row ⟨true, 3, (.int .i64), o5⟩, .row ⟨true, 3, (.int .i64), o6⟩]⟩) = (run_tutorref04_pick (fun r0 r1 r2 r3 r4 r5 => K (.agg [.v (.int .i64 r0), .v (.int .i64 r1), .v (.int .i64 r2), .v (.int .i64 r3), .own 0, .own 1]) [.row ⟨true, 3, (.int .i64), r4⟩, .row ⟨true, 3, (.int .i64), r5⟩]) fuel).1 ∧
    (fun states place i s x o0 o0_1 o0_2 o0_3 o0_4 o0_5 o1 o1_1 o1_2 o1_3 o2 o3 o4 o4_1 o4_2 o4_3 o5 o6 => (runO Try.prog T_tutorref04_pick cuts_tutorref04_pick 0 (finish Try.prog Try.f49 0 K) fuel) (at' Try.f49 7) ⟨fr0 86 [(1, .rd ⟨false, 3, (.int .i64), states⟩), (2, .rd ⟨false, 3, (.int .i64), place⟩), (3, .ptr 0 0), (6, .ptr 1 0), (7, .ptr 4 0), (8, .v (.int .i64 i)), (9, .v (.int .i64 s)), (10, .v (.int .i64 x))], [.box 24 [.v (.int .i64 o0), .v (.int .i64 o0_1), .v (.int .i64 o0_2), .v (.int .i64 o0_3), .rd ⟨false, 3, (.int .i64), o0_4⟩, .rd ⟨false, 3, (.int .i64), o0_5⟩], .box 24 [.v (.int .i64 o1), .v (.int .i64 o1_1), .v (.int .i64 o1_2), .v (.int .i64 o1_3), .own 2, .own 3], .row ⟨true, 3, (.int .i64), o2⟩, .row ⟨true, 3, (.int .i64), o3⟩, .box 24 [.v (.int .i64 o4), .v (.int .i64 o4_1), .v (.int .i64 o4_2), .v (.int .i64 o4_3), .own 5, .own 6], .row ⟨true, 3, (.int .i64), o5⟩, .row ⟨true, 3, (.int .i64), o6⟩]⟩) = (run_tutorref04_pick (fun r0 r1 r2 r3 r4 r5 => K (.agg [.v (.int .i64 r0), .v (.int .i64 r1), .v (.int .i64 r2), .v (.int .i64 r3), .own 0, .own 1]) [.row ⟨true, 3, (.int .i64), r4⟩, .row ⟨true, 3, (.int .i64), r5⟩]) fuel).2
  | 0 => ⟨rfl, rfl⟩
  | fuel + 1 => by
    have ih := runs_tutorref04_pick K fuel
    refine ⟨?_, ?_⟩
    · funext states place i o0 o0_1 o0_2 o0_3 o0_4 o0_5 o1 o1_1 o1_2 o1_3 o2 o3 o4 o4_1 o4_2 o4_3 o5 o6
      refine (step_tutorref04_pick_3 _ K states place i o0 o0_1 o0_2 o0_3 o0_4 o0_5 o1 o1_1 o1_2 o1_3 o2 o3 o4 o4_1 o4_2 o4_3 o5 o6).trans ?_
      rw [ih.1, ih.2]
      rfl
    · funext states place i s x o0 o0_1 o0_2 o0_3 o0_4 o0_5 o1 o1_1 o1_2 o1_3 o2 o3 o4 o4_1 o4_2 o4_3 o5 o6
      refine (step_tutorref04_pick_7 _ K states place i s x o0 o0_1 o0_2 o0_3 o0_4 o0_5 o1 o1_1 o1_2 o1_3 o2 o3 o4 o4_1 o4_2 o4_3 o5 o6).trans ?_
      rw [ih.1, ih.2]
      rfl

def S_tutorref04_pick (l_tutorref04_pick : {R : Type} → Int → Int → Int → Int → (List Int) → (List Int) → (List Int) → (List Int) → (Int → Int → Int → Int → (List Int) → (List Int) → Option R) → Option R) : Sum := ⟨[], fun {R} args ob K => match args, ob with
  | [.agg [.v (.int .i64 m), .v (.int .i64 m_1), .v (.int .i64 m_2), .v (.int .i64 m_3), .rd ⟨false, 3, (.int .i64), m_4⟩, .rd ⟨false, 3, (.int .i64), m_5⟩], .rd ⟨false, 3, (.int .i64), states⟩, .rd ⟨false, 3, (.int .i64), place⟩], [] => l_tutorref04_pick m m_1 m_2 m_3 m_4 m_5 states place (fun r0 r1 r2 r3 r4 r5 => K (.agg [.v (.int .i64 r0), .v (.int .i64 r1), .v (.int .i64 r2), .v (.int .i64 r3), .own 0, .own 1]) [.row ⟨true, 3, (.int .i64), r4⟩, .row ⟨true, 3, (.int .i64), r5⟩])
  | _, _ => none⟩

theorem sound_tutorref04_pick : Sound Try.prog 49 (S_tutorref04_pick @l_tutorref04_pick) := by
  refine fn_sound (cuts := cuts_tutorref04_pick) (fn := Try.f49) (Γ := T_tutorref04_pick) wide right_T_tutorref04_pick Try.func49 fun {R} K r args ob h => ?_
  unfold S_tutorref04_pick at h
  dsimp only at h
  split at h
  · obtain ⟨n, hn⟩ := ok_tutorref04_pick _ _ _ _ _ _ _ _ _ h
    refine ⟨Nat.le_of_ble_eq_true (by kernel_rfl), n, (entry_tutorref04_pick n K _ _ _ _ _ _ _ _).trans ?_⟩
    rw [(runs_tutorref04_pick K n).1, (runs_tutorref04_pick K n).2]
    exact hn
  · cases h

theorem call_tutorref04_pick : Callable Try.prog 49 := ⟨_, Try.func49, by kernel_rfl, by kernel_rfl⟩

def T_tutorref04_Canon (l_tutorref04_Reach : {R : Type} → Int → Int → Int → Int → (List Int) → (List Int) → (Int → (List Int) → (List (List Int)) → Option R) → Option R) (l_tutorref04_pick : {R : Type} → Int → Int → Int → Int → (List Int) → (List Int) → (List Int) → (List Int) → (Int → Int → Int → Int → (List Int) → (List Int) → Option R) → Option R) : FuncId → Option Sum := (addS (addS G0 48 (S_tutorref04_Reach @l_tutorref04_Reach)) 49 (S_tutorref04_pick @l_tutorref04_pick))

theorem right_T_tutorref04_Canon : Right Try.prog (T_tutorref04_Canon @l_tutorref04_Reach @l_tutorref04_pick) := (right_add (right_add right_G0 call_tutorref04_Reach sound_tutorref04_Reach) call_tutorref04_pick sound_tutorref04_pick)

abbrev cuts_tutorref04_Canon : Cuts := [(6, [1, 2, 4, 7, 8])]

theorem gstep_tutorref04_Canon_6 (l_tutorref04_Reach : {R : Type} → Int → Int → Int → Int → (List Int) → (List Int) → (Int → (List Int) → (List (List Int)) → Option R) → Option R) (l_tutorref04_pick : {R : Type} → Int → Int → Int → Int → (List Int) → (List Int) → (List Int) → (List Int) → (Int → Int → Int → Int → (List Int) → (List Int) → Option R) → Option R) {R : Type} (g : List Item → St → Option R) (K : AV → List O → Option R) (i : Int) (o0 : Int) (o0_1 : Int) (o0_2 : Int) (o0_3 : Int) (o0_4 : List Int) (o0_5 : List Int) (o1 : Int) (o1_1 : Int) (o1_2 : Int) (o1_3 : Int) (o2 : List Int) (o3 : List Int) (o4 : List Int) (o5 : List Int) :
    runSeg Try.prog (T_tutorref04_Canon @l_tutorref04_Reach @l_tutorref04_pick) cuts_tutorref04_Canon 0 g (finish Try.prog Try.f33 0 K) (at' Try.f33 6) ⟨fr0 39 [(1, .ptr 0 0), (2, .ptr 1 0), (4, .own 4), (7, .own 5), (8, .v (.int .i64 i))], [.box 24 [.v (.int .i64 o0), .v (.int .i64 o0_1), .v (.int .i64 o0_2), .v (.int .i64 o0_3), .rd ⟨false, 3, (.int .i64), o0_4⟩, .rd ⟨false, 3, (.int .i64), o0_5⟩], .box 24 [.v (.int .i64 o1), .v (.int .i64 o1_1), .v (.int .i64 o1_2), .v (.int .i64 o1_3), .own 2, .own 3], .row ⟨true, 3, (.int .i64), o2⟩, .row ⟨true, 3, (.int .i64), o3⟩, .row ⟨true, 3, (.int .i64), o4⟩, .row ⟨true, 3, (.int .i64), o5⟩]⟩ =
    (fun (g33_6 : Int → Int → Int → Int → Int → (List Int) → (List Int) → Int → Int → Int → Int → (List Int) → (List Int) → (List Int) → (List Int) → Option R) (K0 : Int → Int → Int → Int → Int → (List Int) → (List Int) → Option R) (i : Int) (o0 : Int) (o0_1 : Int) (o0_2 : Int) (o0_3 : Int) (o0_4 : List Int) (o0_5 : List Int) (o1 : Int) (o1_1 : Int) (o1_2 : Int) (o1_3 : Int) (o2 : List Int) (o3 : List Int) (o4 : List Int) (o5 : List Int) =>
    bi (decide (i < (o4.length : Int)))
     (bi (decide (0 ≤ i ∧ i < ((o4.length : Nat) : Int)))
      (bi (decide (0 ≤ (o4.getD i.toNat 0) ∧ (o4.getD i.toNat 0) < ((o5.length : Nat) : Int)))
       (g33_6 (IntKind.i64.wrap (i + 1)) o0 o0_1 o0_2 o0_3 o0_4 o0_5 o1 o1_1 o1_2 o1_3 o2 o3 o4 (o5.set ((o4.getD i.toNat 0).toNat) i))
       none)
      none)
     (l_tutorref04_pick o0 o0_1 o0_2 o0_3 o0_4 o0_5 o4 o5
      (fun r4 r5 r6 r7 r8 r9 =>
       K0 r4 r5 r6 r7 0 r8 r9))) (fun i o0 o0_1 o0_2 o0_3 o0_4 o0_5 o1 o1_1 o1_2 o1_3 o2 o3 o4 o5 => g (at' Try.f33 6) ⟨fr0 39 [(1, .ptr 0 0), (2, .ptr 1 0), (4, .own 4), (7, .own 5), (8, .v (.int .i64 i))], [.box 24 [.v (.int .i64 o0), .v (.int .i64 o0_1), .v (.int .i64 o0_2), .v (.int .i64 o0_3), .rd ⟨false, 3, (.int .i64), o0_4⟩, .rd ⟨false, 3, (.int .i64), o0_5⟩], .box 24 [.v (.int .i64 o1), .v (.int .i64 o1_1), .v (.int .i64 o1_2), .v (.int .i64 o1_3), .own 2, .own 3], .row ⟨true, 3, (.int .i64), o2⟩, .row ⟨true, 3, (.int .i64), o3⟩, .row ⟨true, 3, (.int .i64), o4⟩, .row ⟨true, 3, (.int .i64), o5⟩]⟩) (fun r0 r1 r2 r3 r4 r5 r6 => K (.tup [.agg [.v (.int .i64 r0), .v (.int .i64 r1), .v (.int .i64 r2), .v (.int .i64 r3), .own 0, .own 1], .v (.int .i64 r4)]) [.row ⟨true, 3, (.int .i64), r5⟩, .row ⟨true, 3, (.int .i64), r6⟩]) i o0 o0_1 o0_2 o0_3 o0_4 o0_5 o1 o1_1 o1_2 o1_3 o2 o3 o4 o5 := by kernel_rfl

theorem step_tutorref04_Canon_6 {R : Type} (g : List Item → St → Option R) (K : AV → List O → Option R) (i : Int) (o0 : Int) (o0_1 : Int) (o0_2 : Int) (o0_3 : Int) (o0_4 : List Int) (o0_5 : List Int) (o1 : Int) (o1_1 : Int) (o1_2 : Int) (o1_3 : Int) (o2 : List Int) (o3 : List Int) (o4 : List Int) (o5 : List Int) :
    runSeg Try.prog (T_tutorref04_Canon @l_tutorref04_Reach @l_tutorref04_pick) cuts_tutorref04_Canon 0 g (finish Try.prog Try.f33 0 K) (at' Try.f33 6) ⟨fr0 39 [(1, .ptr 0 0), (2, .ptr 1 0), (4, .own 4), (7, .own 5), (8, .v (.int .i64 i))], [.box 24 [.v (.int .i64 o0), .v (.int .i64 o0_1), .v (.int .i64 o0_2), .v (.int .i64 o0_3), .rd ⟨false, 3, (.int .i64), o0_4⟩, .rd ⟨false, 3, (.int .i64), o0_5⟩], .box 24 [.v (.int .i64 o1), .v (.int .i64 o1_1), .v (.int .i64 o1_2), .v (.int .i64 o1_3), .own 2, .own 3], .row ⟨true, 3, (.int .i64), o2⟩, .row ⟨true, 3, (.int .i64), o3⟩, .row ⟨true, 3, (.int .i64), o4⟩, .row ⟨true, 3, (.int .i64), o5⟩]⟩ =
    s_tutorref04_Canon_6 (fun i o0 o0_1 o0_2 o0_3 o0_4 o0_5 o1 o1_1 o1_2 o1_3 o2 o3 o4 o5 => g (at' Try.f33 6) ⟨fr0 39 [(1, .ptr 0 0), (2, .ptr 1 0), (4, .own 4), (7, .own 5), (8, .v (.int .i64 i))], [.box 24 [.v (.int .i64 o0), .v (.int .i64 o0_1), .v (.int .i64 o0_2), .v (.int .i64 o0_3), .rd ⟨false, 3, (.int .i64), o0_4⟩, .rd ⟨false, 3, (.int .i64), o0_5⟩], .box 24 [.v (.int .i64 o1), .v (.int .i64 o1_1), .v (.int .i64 o1_2), .v (.int .i64 o1_3), .own 2, .own 3], .row ⟨true, 3, (.int .i64), o2⟩, .row ⟨true, 3, (.int .i64), o3⟩, .row ⟨true, 3, (.int .i64), o4⟩, .row ⟨true, 3, (.int .i64), o5⟩]⟩) (fun r0 r1 r2 r3 r4 r5 r6 => K (.tup [.agg [.v (.int .i64 r0), .v (.int .i64 r1), .v (.int .i64 r2), .v (.int .i64 r3), .own 0, .own 1], .v (.int .i64 r4)]) [.row ⟨true, 3, (.int .i64), r5⟩, .row ⟨true, 3, (.int .i64), r6⟩]) i o0 o0_1 o0_2 o0_3 o0_4 o0_5 o1 o1_1 o1_2 o1_3 o2 o3 o4 o5 := gstep_tutorref04_Canon_6 @l_tutorref04_Reach @l_tutorref04_pick g K i o0 o0_1 o0_2 o0_3 o0_4 o0_5 o1 o1_1 o1_2 o1_3 o2 o3 o4 o5

theorem gentry_tutorref04_Canon (l_tutorref04_Reach : {R : Type} → Int → Int → Int → Int → (List Int) → (List Int) → (Int → (List Int) → (List (List Int)) → Option R) → Option R) (l_tutorref04_pick : {R : Type} → Int → Int → Int → Int → (List Int) → (List Int) → (List Int) → (List Int) → (Int → Int → Int → Int → (List Int) → (List Int) → Option R) → Option R) {R : Type} (fuel : Nat) (K : AV → List O → Option R) (m : Int) (m_1 : Int) (m_2 : Int) (m_3 : Int) (m_4 : List Int) (m_5 : List Int) :
    fnRun Try.prog (T_tutorref04_Canon @l_tutorref04_Reach @l_tutorref04_pick) cuts_tutorref04_Canon Try.f33 fuel [.agg [.v (.int .i64 m), .v (.int .i64 m_1), .v (.int .i64 m_2), .v (.int .i64 m_3), .rd ⟨false, 3, (.int .i64), m_4⟩, .rd ⟨false, 3, (.int .i64), m_5⟩]] [] K =
    (fun (g33_6 : Int → Int → Int → Int → Int → (List Int) → (List Int) → Int → Int → Int → Int → (List Int) → (List Int) → (List Int) → (List Int) → Option R) (K0 : Int → Int → Int → Int → Int → (List Int) → (List Int) → Option R) (m : Int) (m_1 : Int) (m_2 : Int) (m_3 : Int) (m_4 : List Int) (m_5 : List Int) =>
    l_tutorref04_Reach m m_1 m_2 m_3 m_4 m_5
     (fun r1 r2 r3 =>
      bi (r1 != 0)
       (K0 0 0 0 0 r1 ([] : List Int) ([] : List Int))
       (bi (decide (0 ≤ m_3 ∧ m_3 ≤ m_3 ∧ m_3 ≤ 1073741824))
        (g33_6 0 m m_1 m_2 m_3 m_4 m_5 0 0 0 0 ([] : List Int) ([] : List Int) r2 (List.replicate m_3.toNat (0 : Int)))
        none))) (fun i o0 o0_1 o0_2 o0_3 o0_4 o0_5 o1 o1_1 o1_2 o1_3 o2 o3 o4 o5 => (runO Try.prog (T_tutorref04_Canon @l_tutorref04_Reach @l_tutorref04_pick) cuts_tutorref04_Canon 0 (finish Try.prog Try.f33 0 K) fuel) (at' Try.f33 6) ⟨fr0 39 [(1, .ptr 0 0), (2, .ptr 1 0), (4, .own 4), (7, .own 5), (8, .v (.int .i64 i))], [.box 24 [.v (.int .i64 o0), .v (.int .i64 o0_1), .v (.int .i64 o0_2), .v (.int .i64 o0_3), .rd ⟨false, 3, (.int .i64), o0_4⟩, .rd ⟨false, 3, (.int .i64), o0_5⟩], .box 24 [.v (.int .i64 o1), .v (.int .i64 o1_1), .v (.int .i64 o1_2), .v (.int .i64 o1_3), .own 2, .own 3], .row ⟨true, 3, (.int .i64), o2⟩, .row ⟨true, 3, (.int .i64), o3⟩, .row ⟨true, 3, (.int .i64), o4⟩, .row ⟨true, 3, (.int .i64), o5⟩]⟩) (fun r0 r1 r2 r3 r4 r5 r6 => K (.tup [.agg [.v (.int .i64 r0), .v (.int .i64 r1), .v (.int .i64 r2), .v (.int .i64 r3), .own 0, .own 1], .v (.int .i64 r4)]) [.row ⟨true, 3, (.int .i64), r5⟩, .row ⟨true, 3, (.int .i64), r6⟩]) m m_1 m_2 m_3 m_4 m_5 := by kernel_rfl

theorem entry_tutorref04_Canon {R : Type} (fuel : Nat) (K : AV → List O → Option R) (m : Int) (m_1 : Int) (m_2 : Int) (m_3 : Int) (m_4 : List Int) (m_5 : List Int) :
    fnRun Try.prog (T_tutorref04_Canon @l_tutorref04_Reach @l_tutorref04_pick) cuts_tutorref04_Canon Try.f33 fuel [.agg [.v (.int .i64 m), .v (.int .i64 m_1), .v (.int .i64 m_2), .v (.int .i64 m_3), .rd ⟨false, 3, (.int .i64), m_4⟩, .rd ⟨false, 3, (.int .i64), m_5⟩]] [] K =
    e_tutorref04_Canon (fun i o0 o0_1 o0_2 o0_3 o0_4 o0_5 o1 o1_1 o1_2 o1_3 o2 o3 o4 o5 => (runO Try.prog (T_tutorref04_Canon @l_tutorref04_Reach @l_tutorref04_pick) cuts_tutorref04_Canon 0 (finish Try.prog Try.f33 0 K) fuel) (at' Try.f33 6) ⟨fr0 39 [(1, .ptr 0 0), (2, .ptr 1 0), (4, .own 4), (7, .own 5), (8, .v (.int .i64 i))], [.box 24 [.v (.int .i64 o0), .v (.int .i64 o0_1), .v (.int .i64 o0_2), .v (.int .i64 o0_3), .rd ⟨false, 3, (.int .i64), o0_4⟩, .rd ⟨false, 3, (.int .i64), o0_5⟩], .box 24 [.v (.int .i64 o1), .v (.int .i64 o1_1), .v (.int .i64 o1_2), .v (.int .i64 o1_3), .own 2, .own 3], .row ⟨true, 3, (.int .i64), o2⟩, .row ⟨true, 3, (.int .i64), o3⟩, .row ⟨true, 3, (.int .i64), o4⟩, .row ⟨true, 3, (.int .i64), o5⟩]⟩) (fun r0 r1 r2 r3 r4 r5 r6 => K (.tup [.agg [.v (.int .i64 r0), .v (.int .i64 r1), .v (.int .i64 r2), .v (.int .i64 r3), .own 0, .own 1], .v (.int .i64 r4)]) [.row ⟨true, 3, (.int .i64), r5⟩, .row ⟨true, 3, (.int .i64), r6⟩]) m m_1 m_2 m_3 m_4 m_5 := gentry_tutorref04_Canon @l_tutorref04_Reach @l_tutorref04_pick fuel K m m_1 m_2 m_3 m_4 m_5

theorem runs_tutorref04_Canon {R : Type} (K : AV → List O → Option R) : ∀ fuel : Nat,
    (fun i o0 o0_1 o0_2 o0_3 o0_4 o0_5 o1 o1_1 o1_2 o1_3 o2 o3 o4 o5 => (runO Try.prog (T_tutorref04_Canon @l_tutorref04_Reach @l_tutorref04_pick) cuts_tutorref04_Canon 0 (finish Try.prog Try.f33 0 K) fuel) (at' Try.f33 6) ⟨fr0 39 [(1, .ptr 0 0), (2, .ptr 1 0), (4, .own 4), (7, .own 5), (8, .v (.int .i64 i))], [.box 24 [.v (.int .i64 o0), .v (.int .i64 o0_1), .v (.int .i64 o0_2), .v (.int .i64 o0_3), .rd ⟨false, 3, (.int .i64), o0_4⟩, .rd ⟨false, 3, (.int .i64), o0_5⟩], .box 24 [.v (.int .i64 o1), .v (.int .i64 o1_1), .v (.int .i64 o1_2), .v (.int .i64 o1_3), .own 2, .own 3], .row ⟨true, 3, (.int .i64), o2⟩, .row ⟨true, 3, (.int .i64), o3⟩, .row ⟨true, 3, (.int .i64), o4⟩, .row ⟨true, 3, (.int .i64), o5⟩]⟩) = (run_tutorref04_Canon (fun r0 r1 r2 r3 r4 r5 r6 => K (.tup [.agg [.v (.int .i64 r0), .v (.int .i64 r1), .v (.int .i64 r2), .v (.int .i64 r3), .own 0, .own 1], .v (.int .i64 r4)]) [.row ⟨true, 3, (.int .i64), r5⟩, .row ⟨true, 3, (.int .i64), r6⟩]) fuel)
  | 0 => rfl
  | fuel + 1 => by
    have ih := runs_tutorref04_Canon K fuel
    funext i o0 o0_1 o0_2 o0_3 o0_4 o0_5 o1 o1_1 o1_2 o1_3 o2 o3 o4 o5
    refine (step_tutorref04_Canon_6 _ K i o0 o0_1 o0_2 o0_3 o0_4 o0_5 o1 o1_1 o1_2 o1_3 o2 o3 o4 o5).trans ?_
    rw [ih]
    rfl

def S_tutorref04_Canon (l_tutorref04_Canon : {R : Type} → Int → Int → Int → Int → (List Int) → (List Int) → (Int → Int → Int → Int → Int → (List Int) → (List Int) → Option R) → Option R) : Sum := ⟨[], fun {R} args ob K => match args, ob with
  | [.agg [.v (.int .i64 m), .v (.int .i64 m_1), .v (.int .i64 m_2), .v (.int .i64 m_3), .rd ⟨false, 3, (.int .i64), m_4⟩, .rd ⟨false, 3, (.int .i64), m_5⟩]], [] => l_tutorref04_Canon m m_1 m_2 m_3 m_4 m_5 (fun r0 r1 r2 r3 r4 r5 r6 => K (.tup [.agg [.v (.int .i64 r0), .v (.int .i64 r1), .v (.int .i64 r2), .v (.int .i64 r3), .own 0, .own 1], .v (.int .i64 r4)]) [.row ⟨true, 3, (.int .i64), r5⟩, .row ⟨true, 3, (.int .i64), r6⟩])
  | _, _ => none⟩

theorem sound_tutorref04_Canon : Sound Try.prog 33 (S_tutorref04_Canon @l_tutorref04_Canon) := by
  refine fn_sound (cuts := cuts_tutorref04_Canon) (fn := Try.f33) (Γ := (T_tutorref04_Canon @l_tutorref04_Reach @l_tutorref04_pick)) wide right_T_tutorref04_Canon Try.func33 fun {R} K r args ob h => ?_
  unfold S_tutorref04_Canon at h
  dsimp only at h
  split at h
  · obtain ⟨n, hn⟩ := ok_tutorref04_Canon _ _ _ _ _ _ _ h
    refine ⟨Nat.le_of_ble_eq_true (by kernel_rfl), n, (entry_tutorref04_Canon n K _ _ _ _ _ _).trans ?_⟩
    rw [(runs_tutorref04_Canon K n)]
    exact hn
  · cases h

theorem call_tutorref04_Canon : Callable Try.prog 33 := ⟨_, Try.func33, by kernel_rfl, by kernel_rfl⟩

def T_tutorref05_Minimise (l_tutorref05_Classes : {R : Type} → Int → Int → Int → Int → (List Int) → (List Int) → (Int → Int → (List Int) → Option R) → Option R) (l_tutorref04_Canon : {R : Type} → Int → Int → Int → Int → (List Int) → (List Int) → (Int → Int → Int → Int → Int → (List Int) → (List Int) → Option R) → Option R) : FuncId → Option Sum := (addS (addS G0 22 (S_tutorref05_Classes @l_tutorref05_Classes)) 33 (S_tutorref04_Canon @l_tutorref04_Canon))

theorem right_T_tutorref05_Minimise : Right Try.prog (T_tutorref05_Minimise @l_tutorref05_Classes @l_tutorref04_Canon) := (right_add (right_add right_G0 call_tutorref05_Classes sound_tutorref05_Classes) call_tutorref04_Canon sound_tutorref04_Canon)

abbrev cuts_tutorref05_Minimise : Cuts := [(6, [1, 2, 4, 7, 8]), (11, [1, 2, 4, 7, 8, 9])]

theorem gstep_tutorref05_Minimise_6 (l_tutorref05_Classes : {R : Type} → Int → Int → Int → Int → (List Int) → (List Int) → (Int → Int → (List Int) → Option R) → Option R) (l_tutorref04_Canon : {R : Type} → Int → Int → Int → Int → (List Int) → (List Int) → (Int → Int → Int → Int → Int → (List Int) → (List Int) → Option R) → Option R) {R : Type} (g : List Item → St → Option R) (K : AV → List O → Option R) (s : Int) (o0 : Int) (o0_1 : Int) (o0_2 : Int) (o0_3 : Int) (o0_4 : List Int) (o0_5 : List Int) (o1 : Int) (o1_1 : Int) (o1_2 : Int) (o1_3 : Int) (o2 : List Int) (o3 : List Int) (o4 : List Int) (o5 : Int) (o5_1 : Int) (o5_2 : Int) (o5_3 : Int) (o6 : List Int) (o7 : List Int) :
    runSeg Try.prog (T_tutorref05_Minimise @l_tutorref05_Classes @l_tutorref04_Canon) cuts_tutorref05_Minimise 0 g (finish Try.prog Try.f21 0 K) (at' Try.f21 6) ⟨fr0 103 [(1, .ptr 0 0), (2, .ptr 1 0), (4, .own 4), (7, .ptr 5 0), (8, .v (.int .i64 s))], [.box 24 [.v (.int .i64 o0), .v (.int .i64 o0_1), .v (.int .i64 o0_2), .v (.int .i64 o0_3), .rd ⟨false, 3, (.int .i64), o0_4⟩, .rd ⟨false, 3, (.int .i64), o0_5⟩], .box 24 [.v (.int .i64 o1), .v (.int .i64 o1_1), .v (.int .i64 o1_2), .v (.int .i64 o1_3), .own 2, .own 3], .row ⟨true, 3, (.int .i64), o2⟩, .row ⟨true, 3, (.int .i64), o3⟩, .row ⟨true, 3, (.int .i64), o4⟩, .box 24 [.v (.int .i64 o5), .v (.int .i64 o5_1), .v (.int .i64 o5_2), .v (.int .i64 o5_3), .own 6, .own 7], .row ⟨true, 3, (.int .i64), o6⟩, .row ⟨true, 3, (.int .i64), o7⟩]⟩ =
    (fun (g21_6 : Int → Int → Int → Int → Int → (List Int) → (List Int) → Int → Int → Int → Int → (List Int) → (List Int) → (List Int) → Int → Int → Int → Int → (List Int) → (List Int) → Option R) (g21_11 : Int → Int → Int → Int → Int → Int → (List Int) → (List Int) → Int → Int → Int → Int → (List Int) → (List Int) → (List Int) → Int → Int → Int → Int → (List Int) → (List Int) → Option R) (K0 : Int → Int → Int → Int → Int → (List Int) → (List Int) → Option R) (s : Int) (o0 : Int) (o0_1 : Int) (o0_2 : Int) (o0_3 : Int) (o0_4 : List Int) (o0_5 : List Int) (o1 : Int) (o1_1 : Int) (o1_2 : Int) (o1_3 : Int) (o2 : List Int) (o3 : List Int) (o4 : List Int) (o5 : Int) (o5_1 : Int) (o5_2 : Int) (o5_3 : Int) (o6 : List Int) (o7 : List Int) =>
    bi (decide (s < o0_3))
     (bi (decide (0 ≤ s ∧ s < ((o4.length : Nat) : Int)))
      (bi ((o4.getD s.toNat 0) != o5_3)
       (g21_6 (IntKind.i64.wrap (s + 1)) o0 o0_1 o0_2 o0_3 o0_4 o0_5 o1 o1_1 o1_2 o1_3 o2 o3 o4 o5 o5_1 o5_2 o5_3 o6 o7)
       (g21_11 s 0 o0 o0_1 o0_2 o0_3 o0_4 o0_5 o1 o1_1 o1_2 o1_3 o2 o3 o4 o5 o5_1 o5_2 (IntKind.i64.wrap (o5_3 + 1)) o6 o7))
      none)
     (l_tutorref04_Canon o5 o5_1 o5_2 o5_3 o6 o7
      (fun r4 r5 r6 r7 r8 r9 r10 =>
       K0 r4 r5 r6 r7 r8 r9 r10))) (fun s o0 o0_1 o0_2 o0_3 o0_4 o0_5 o1 o1_1 o1_2 o1_3 o2 o3 o4 o5 o5_1 o5_2 o5_3 o6 o7 => g (at' Try.f21 6) ⟨fr0 103 [(1, .ptr 0 0), (2, .ptr 1 0), (4, .own 4), (7, .ptr 5 0), (8, .v (.int .i64 s))], [.box 24 [.v (.int .i64 o0), .v (.int .i64 o0_1), .v (.int .i64 o0_2), .v (.int .i64 o0_3), .rd ⟨false, 3, (.int .i64), o0_4⟩, .rd ⟨false, 3, (.int .i64), o0_5⟩], .box 24 [.v (.int .i64 o1), .v (.int .i64 o1_1), .v (.int .i64 o1_2), .v (.int .i64 o1_3), .own 2, .own 3], .row ⟨true, 3, (.int .i64), o2⟩, .row ⟨true, 3, (.int .i64), o3⟩, .row ⟨true, 3, (.int .i64), o4⟩, .box 24 [.v (.int .i64 o5), .v (.int .i64 o5_1), .v (.int .i64 o5_2), .v (.int .i64 o5_3), .own 6, .own 7], .row ⟨true, 3, (.int .i64), o6⟩, .row ⟨true, 3, (.int .i64), o7⟩]⟩) (fun s x o0 o0_1 o0_2 o0_3 o0_4 o0_5 o1 o1_1 o1_2 o1_3 o2 o3 o4 o5 o5_1 o5_2 o5_3 o6 o7 => g (at' Try.f21 11) ⟨fr0 103 [(1, .ptr 0 0), (2, .ptr 1 0), (4, .own 4), (7, .ptr 5 0), (8, .v (.int .i64 s)), (9, .v (.int .i64 x))], [.box 24 [.v (.int .i64 o0), .v (.int .i64 o0_1), .v (.int .i64 o0_2), .v (.int .i64 o0_3), .rd ⟨false, 3, (.int .i64), o0_4⟩, .rd ⟨false, 3, (.int .i64), o0_5⟩], .box 24 [.v (.int .i64 o1), .v (.int .i64 o1_1), .v (.int .i64 o1_2), .v (.int .i64 o1_3), .own 2, .own 3], .row ⟨true, 3, (.int .i64), o2⟩, .row ⟨true, 3, (.int .i64), o3⟩, .row ⟨true, 3, (.int .i64), o4⟩, .box 24 [.v (.int .i64 o5), .v (.int .i64 o5_1), .v (.int .i64 o5_2), .v (.int .i64 o5_3), .own 6, .own 7], .row ⟨true, 3, (.int .i64), o6⟩, .row ⟨true, 3, (.int .i64), o7⟩]⟩) (fun r0 r1 r2 r3 r4 r5 r6 => K (.tup [.agg [.v (.int .i64 r0), .v (.int .i64 r1), .v (.int .i64 r2), .v (.int .i64 r3), .own 0, .own 1], .v (.int .i64 r4)]) [.row ⟨true, 3, (.int .i64), r5⟩, .row ⟨true, 3, (.int .i64), r6⟩]) s o0 o0_1 o0_2 o0_3 o0_4 o0_5 o1 o1_1 o1_2 o1_3 o2 o3 o4 o5 o5_1 o5_2 o5_3 o6 o7 := by kernel_rfl

theorem step_tutorref05_Minimise_6 {R : Type} (g : List Item → St → Option R) (K : AV → List O → Option R) (s : Int) (o0 : Int) (o0_1 : Int) (o0_2 : Int) (o0_3 : Int) (o0_4 : List Int) (o0_5 : List Int) (o1 : Int) (o1_1 : Int) (o1_2 : Int) (o1_3 : Int) (o2 : List Int) (o3 : List Int) (o4 : List Int) (o5 : Int) (o5_1 : Int) (o5_2 : Int) (o5_3 : Int) (o6 : List Int) (o7 : List Int) :
    runSeg Try.prog (T_tutorref05_Minimise @l_tutorref05_Classes @l_tutorref04_Canon) cuts_tutorref05_Minimise 0 g (finish Try.prog Try.f21 0 K) (at' Try.f21 6) ⟨fr0 103 [(1, .ptr 0 0), (2, .ptr 1 0), (4, .own 4), (7, .ptr 5 0), (8, .v (.int .i64 s))], [.box 24 [.v (.int .i64 o0), .v (.int .i64 o0_1), .v (.int .i64 o0_2), .v (.int .i64 o0_3), .rd ⟨false, 3, (.int .i64), o0_4⟩, .rd ⟨false, 3, (.int .i64), o0_5⟩], .box 24 [.v (.int .i64 o1), .v (.int .i64 o1_1), .v (.int .i64 o1_2), .v (.int .i64 o1_3), .own 2, .own 3], .row ⟨true, 3, (.int .i64), o2⟩, .row ⟨true, 3, (.int .i64), o3⟩, .row ⟨true, 3, (.int .i64), o4⟩, .box 24 [.v (.int .i64 o5), .v (.int .i64 o5_1), .v (.int .i64 o5_2), .v (.int .i64 o5_3), .own 6, .own 7], .row ⟨true, 3, (.int .i64), o6⟩, .row ⟨true, 3, (.int .i64), o7⟩]⟩ =
    s_tutorref05_Minimise_6 (fun s o0 o0_1 o0_2 o0_3 o0_4 o0_5 o1 o1_1 o1_2 o1_3 o2 o3 o4 o5 o5_1 o5_2 o5_3 o6 o7 => g (at' Try.f21 6) ⟨fr0 103 [(1, .ptr 0 0), (2, .ptr 1 0), (4, .own 4), (7, .ptr 5 0), (8, .v (.int .i64 s))], [.box 24 [.v (.int .i64 o0), .v (.int .i64 o0_1), .v (.int .i64 o0_2), .v (.int .i64 o0_3), .rd ⟨false, 3, (.int .i64), o0_4⟩, .rd ⟨false, 3, (.int .i64), o0_5⟩], .box 24 [.v (.int .i64 o1), .v (.int .i64 o1_1), .v (.int .i64 o1_2), .v (.int .i64 o1_3), .own 2, .own 3], .row ⟨true, 3, (.int .i64), o2⟩, .row ⟨true, 3, (.int .i64), o3⟩, .row ⟨true, 3, (.int .i64), o4⟩, .box 24 [.v (.int .i64 o5), .v (.int .i64 o5_1), .v (.int .i64 o5_2), .v (.int .i64 o5_3), .own 6, .own 7], .row ⟨true, 3, (.int .i64), o6⟩, .row ⟨true, 3, (.int .i64), o7⟩]⟩) (fun s x o0 o0_1 o0_2 o0_3 o0_4 o0_5 o1 o1_1 o1_2 o1_3 o2 o3 o4 o5 o5_1 o5_2 o5_3 o6 o7 => g (at' Try.f21 11) ⟨fr0 103 [(1, .ptr 0 0), (2, .ptr 1 0), (4, .own 4), (7, .ptr 5 0), (8, .v (.int .i64 s)), (9, .v (.int .i64 x))], [.box 24 [.v (.int .i64 o0), .v (.int .i64 o0_1), .v (.int .i64 o0_2), .v (.int .i64 o0_3), .rd ⟨false, 3, (.int .i64), o0_4⟩, .rd ⟨false, 3, (.int .i64), o0_5⟩], .box 24 [.v (.int .i64 o1), .v (.int .i64 o1_1), .v (.int .i64 o1_2), .v (.int .i64 o1_3), .own 2, .own 3], .row ⟨true, 3, (.int .i64), o2⟩, .row ⟨true, 3, (.int .i64), o3⟩, .row ⟨true, 3, (.int .i64), o4⟩, .box 24 [.v (.int .i64 o5), .v (.int .i64 o5_1), .v (.int .i64 o5_2), .v (.int .i64 o5_3), .own 6, .own 7], .row ⟨true, 3, (.int .i64), o6⟩, .row ⟨true, 3, (.int .i64), o7⟩]⟩) (fun r0 r1 r2 r3 r4 r5 r6 => K (.tup [.agg [.v (.int .i64 r0), .v (.int .i64 r1), .v (.int .i64 r2), .v (.int .i64 r3), .own 0, .own 1], .v (.int .i64 r4)]) [.row ⟨true, 3, (.int .i64), r5⟩, .row ⟨true, 3, (.int .i64), r6⟩]) s o0 o0_1 o0_2 o0_3 o0_4 o0_5 o1 o1_1 o1_2 o1_3 o2 o3 o4 o5 o5_1 o5_2 o5_3 o6 o7 := gstep_tutorref05_Minimise_6 @l_tutorref05_Classes @l_tutorref04_Canon g K s o0 o0_1 o0_2 o0_3 o0_4 o0_5 o1 o1_1 o1_2 o1_3 o2 o3 o4 o5 o5_1 o5_2 o5_3 o6 o7

theorem gstep_tutorref05_Minimise_11 (l_tutorref05_Classes : {R : Type} → Int → Int → Int → Int → (List Int) → (List Int) → (Int → Int → (List Int) → Option R) → Option R) (l_tutorref04_Canon : {R : Type} → Int → Int → Int → Int → (List Int) → (List Int) → (Int → Int → Int → Int → Int → (List Int) → (List Int) → Option R) → Option R) {R : Type} (g : List Item → St → Option R) (K : AV → List O → Option R) (s : Int) (x : Int) (o0 : Int) (o0_1 : Int) (o0_2 : Int) (o0_3 : Int) (o0_4 : List Int) (o0_5 : List Int) (o1 : Int) (o1_1 : Int) (o1_2 : Int) (o1_3 : Int) (o2 : List Int) (o3 : List Int) (o4 : List Int) (o5 : Int) (o5_1 : Int) (o5_2 : Int) (o5_3 : Int) (o6 : List Int) (o7 : List Int) :
    runSeg Try.prog (T_tutorref05_Minimise @l_tutorref05_Classes @l_tutorref04_Canon) cuts_tutorref05_Minimise 0 g (finish Try.prog Try.f21 0 K) (at' Try.f21 11) ⟨fr0 103 [(1, .ptr 0 0), (2, .ptr 1 0), (4, .own 4), (7, .ptr 5 0), (8, .v (.int .i64 s)), (9, .v (.int .i64 x))], [.box 24 [.v (.int .i64 o0), .v (.int .i64 o0_1), .v (.int .i64 o0_2), .v (.int .i64 o0_3), .rd ⟨false, 3, (.int .i64), o0_4⟩, .rd ⟨false, 3, (.int .i64), o0_5⟩], .box 24 [.v (.int .i64 o1), .v (.int .i64 o1_1), .v (.int .i64 o1_2), .v (.int .i64 o1_3), .own 2, .own 3], .row ⟨true, 3, (.int .i64), o2⟩, .row ⟨true, 3, (.int .i64), o3⟩, .row ⟨true, 3, (.int .i64), o4⟩, .box 24 [.v (.int .i64 o5), .v (.int .i64 o5_1), .v (.int .i64 o5_2), .v (.int .i64 o5_3), .own 6, .own 7], .row ⟨true, 3, (.int .i64), o6⟩, .row ⟨true, 3, (.int .i64), o7⟩]⟩ =
    (fun (g21_6 : Int → Int → Int → Int → Int → (List Int) → (List Int) → Int → Int → Int → Int → (List Int) → (List Int) → (List Int) → Int → Int → Int → Int → (List Int) → (List Int) → Option R) (g21_11 : Int → Int → Int → Int → Int → Int → (List Int) → (List Int) → Int → Int → Int → Int → (List Int) → (List Int) → (List Int) → Int → Int → Int → Int → (List Int) → (List Int) → Option R) (K0 : Int → Int → Int → Int → Int → (List Int) → (List Int) → Option R) (s : Int) (x : Int) (o0 : Int) (o0_1 : Int) (o0_2 : Int) (o0_3 : Int) (o0_4 : List Int) (o0_5 : List Int) (o1 : Int) (o1_1 : Int) (o1_2 : Int) (o1_3 : Int) (o2 : List Int) (o3 : List Int) (o4 : List Int) (o5 : Int) (o5_1 : Int) (o5_2 : Int) (o5_3 : Int) (o6 : List Int) (o7 : List Int) =>
    bi (decide (x < o0_1))
     (bi (decide (0 ≤ (IntKind.i64.wrap ((IntKind.i64.wrap (s * o0_1)) + x)) ∧ (IntKind.i64.wrap ((IntKind.i64.wrap (s * o0_1)) + x)) < ((o0_4.length : Nat) : Int)))
      (bi (decide (0 ≤ (o0_4.getD ((IntKind.i64.wrap ((IntKind.i64.wrap (s * o0_1)) + x)).toNat) 0) ∧ (o0_4.getD ((IntKind.i64.wrap ((IntKind.i64.wrap (s * o0_1)) + x)).toNat) 0) < ((o4.length : Nat) : Int)))
       (bi (decide ((o6.length + [o4.getD ((o0_4.getD ((IntKind.i64.wrap ((IntKind.i64.wrap (s * o0_1)) + x)).toNat) 0).toNat) 0].length) * 8 ≤ lim))
        (bi (o0 == 2)
         (bi (decide (0 ≤ (IntKind.i64.wrap ((IntKind.i64.wrap (s * o0_1)) + x)) ∧ (IntKind.i64.wrap ((IntKind.i64.wrap (s * o0_1)) + x)) < ((o0_5.length : Nat) : Int)))
          (bi (decide ((o7.length + [o0_5.getD ((IntKind.i64.wrap ((IntKind.i64.wrap (s * o0_1)) + x)).toNat) 0].length) * 8 ≤ lim))
           (g21_11 s (IntKind.i64.wrap (x + 1)) o0 o0_1 o0_2 o0_3 o0_4 o0_5 o1 o1_1 o1_2 o1_3 o2 o3 o4 o5 o5_1 o5_2 o5_3 (o6 ++ [o4.getD ((o0_4.getD ((IntKind.i64.wrap ((IntKind.i64.wrap (s * o0_1)) + x)).toNat) 0).toNat) 0]) (o7 ++ [o0_5.getD ((IntKind.i64.wrap ((IntKind.i64.wrap (s * o0_1)) + x)).toNat) 0]))
           none)
          none)
         (g21_11 s (IntKind.i64.wrap (x + 1)) o0 o0_1 o0_2 o0_3 o0_4 o0_5 o1 o1_1 o1_2 o1_3 o2 o3 o4 o5 o5_1 o5_2 o5_3 (o6 ++ [o4.getD ((o0_4.getD ((IntKind.i64.wrap ((IntKind.i64.wrap (s * o0_1)) + x)).toNat) 0).toNat) 0]) o7))
        none)
       none)
      none)
     (bi (o0 == 1)
      (bi (decide (0 ≤ s ∧ s < ((o0_5.length : Nat) : Int)))
       (bi (decide ((o7.length + [o0_5.getD s.toNat 0].length) * 8 ≤ lim))
        (g21_6 (IntKind.i64.wrap (s + 1)) o0 o0_1 o0_2 o0_3 o0_4 o0_5 o1 o1_1 o1_2 o1_3 o2 o3 o4 o5 o5_1 o5_2 o5_3 o6 (o7 ++ [o0_5.getD s.toNat 0]))
        none)
       none)
      (g21_6 (IntKind.i64.wrap (s + 1)) o0 o0_1 o0_2 o0_3 o0_4 o0_5 o1 o1_1 o1_2 o1_3 o2 o3 o4 o5 o5_1 o5_2 o5_3 o6 o7))) (fun s o0 o0_1 o0_2 o0_3 o0_4 o0_5 o1 o1_1 o1_2 o1_3 o2 o3 o4 o5 o5_1 o5_2 o5_3 o6 o7 => g (at' Try.f21 6) ⟨fr0 103 [(1, .ptr 0 0), (2, .ptr 1 0), (4, .own 4), (7, .ptr 5 0), (8, .v (.int .i64 s))], [.box 24 [.v (.int .i64 o0), .v (.int .i64 o0_1), .v (.int .i64 o0_2), .v (.int .i64 o0_3), .rd ⟨false, 3, (.int .i64), o0_4⟩, .rd ⟨false, 3, (.int .i64), o0_5⟩], .box 24 [.v (.int .i64 o1), .v (.int .i64 o1_1), .v (.int .i64 o1_2), .v (.int .i64 o1_3), .own 2, .own 3], .row ⟨true, 3, (.int .i64), o2⟩, .row ⟨true, 3, (.int .i64), o3⟩, .row ⟨true, 3, (.int .i64), o4⟩, .box 24 [.v (.int .i64 o5), .v (.int .i64 o5_1), .v (.int .i64 o5_2), .v (.int .i64 o5_3), .own 6, .own 7], .row ⟨true, 3, (.int .i64), o6⟩, .row ⟨true, 3, (.int .i64), o7⟩]⟩) (fun s x o0 o0_1 o0_2 o0_3 o0_4 o0_5 o1 o1_1 o1_2 o1_3 o2 o3 o4 o5 o5_1 o5_2 o5_3 o6 o7 => g (at' Try.f21 11) ⟨fr0 103 [(1, .ptr 0 0), (2, .ptr 1 0), (4, .own 4), (7, .ptr 5 0), (8, .v (.int .i64 s)), (9, .v (.int .i64 x))], [.box 24 [.v (.int .i64 o0), .v (.int .i64 o0_1), .v (.int .i64 o0_2), .v (.int .i64 o0_3), .rd ⟨false, 3, (.int .i64), o0_4⟩, .rd ⟨false, 3, (.int .i64), o0_5⟩], .box 24 [.v (.int .i64 o1), .v (.int .i64 o1_1), .v (.int .i64 o1_2), .v (.int .i64 o1_3), .own 2, .own 3], .row ⟨true, 3, (.int .i64), o2⟩, .row ⟨true, 3, (.int .i64), o3⟩, .row ⟨true, 3, (.int .i64), o4⟩, .box 24 [.v (.int .i64 o5), .v (.int .i64 o5_1), .v (.int .i64 o5_2), .v (.int .i64 o5_3), .own 6, .own 7], .row ⟨true, 3, (.int .i64), o6⟩, .row ⟨true, 3, (.int .i64), o7⟩]⟩) (fun r0 r1 r2 r3 r4 r5 r6 => K (.tup [.agg [.v (.int .i64 r0), .v (.int .i64 r1), .v (.int .i64 r2), .v (.int .i64 r3), .own 0, .own 1], .v (.int .i64 r4)]) [.row ⟨true, 3, (.int .i64), r5⟩, .row ⟨true, 3, (.int .i64), r6⟩]) s x o0 o0_1 o0_2 o0_3 o0_4 o0_5 o1 o1_1 o1_2 o1_3 o2 o3 o4 o5 o5_1 o5_2 o5_3 o6 o7 := by kernel_rfl

theorem step_tutorref05_Minimise_11 {R : Type} (g : List Item → St → Option R) (K : AV → List O → Option R) (s : Int) (x : Int) (o0 : Int) (o0_1 : Int) (o0_2 : Int) (o0_3 : Int) (o0_4 : List Int) (o0_5 : List Int) (o1 : Int) (o1_1 : Int) (o1_2 : Int) (o1_3 : Int) (o2 : List Int) (o3 : List Int) (o4 : List Int) (o5 : Int) (o5_1 : Int) (o5_2 : Int) (o5_3 : Int) (o6 : List Int) (o7 : List Int) :
    runSeg Try.prog (T_tutorref05_Minimise @l_tutorref05_Classes @l_tutorref04_Canon) cuts_tutorref05_Minimise 0 g (finish Try.prog Try.f21 0 K) (at' Try.f21 11) ⟨fr0 103 [(1, .ptr 0 0), (2, .ptr 1 0), (4, .own 4), (7, .ptr 5 0), (8, .v (.int .i64 s)), (9, .v (.int .i64 x))], [.box 24 [.v (.int .i64 o0), .v (.int .i64 o0_1), .v (.int .i64 o0_2), .v (.int .i64 o0_3), .rd ⟨false, 3, (.int .i64), o0_4⟩, .rd ⟨false, 3, (.int .i64), o0_5⟩], .box 24 [.v (.int .i64 o1), .v (.int .i64 o1_1), .v (.int .i64 o1_2), .v (.int .i64 o1_3), .own 2, .own 3], .row ⟨true, 3, (.int .i64), o2⟩, .row ⟨true, 3, (.int .i64), o3⟩, .row ⟨true, 3, (.int .i64), o4⟩, .box 24 [.v (.int .i64 o5), .v (.int .i64 o5_1), .v (.int .i64 o5_2), .v (.int .i64 o5_3), .own 6, .own 7], .row ⟨true, 3, (.int .i64), o6⟩, .row ⟨true, 3, (.int .i64), o7⟩]⟩ =
    s_tutorref05_Minimise_11 (fun s o0 o0_1 o0_2 o0_3 o0_4 o0_5 o1 o1_1 o1_2 o1_3 o2 o3 o4 o5 o5_1 o5_2 o5_3 o6 o7 => g (at' Try.f21 6) ⟨fr0 103 [(1, .ptr 0 0), (2, .ptr 1 0), (4, .own 4), (7, .ptr 5 0), (8, .v (.int .i64 s))], [.box 24 [.v (.int .i64 o0), .v (.int .i64 o0_1), .v (.int .i64 o0_2), .v (.int .i64 o0_3), .rd ⟨false, 3, (.int .i64), o0_4⟩, .rd ⟨false, 3, (.int .i64), o0_5⟩], .box 24 [.v (.int .i64 o1), .v (.int .i64 o1_1), .v (.int .i64 o1_2), .v (.int .i64 o1_3), .own 2, .own 3], .row ⟨true, 3, (.int .i64), o2⟩, .row ⟨true, 3, (.int .i64), o3⟩, .row ⟨true, 3, (.int .i64), o4⟩, .box 24 [.v (.int .i64 o5), .v (.int .i64 o5_1), .v (.int .i64 o5_2), .v (.int .i64 o5_3), .own 6, .own 7], .row ⟨true, 3, (.int .i64), o6⟩, .row ⟨true, 3, (.int .i64), o7⟩]⟩) (fun s x o0 o0_1 o0_2 o0_3 o0_4 o0_5 o1 o1_1 o1_2 o1_3 o2 o3 o4 o5 o5_1 o5_2 o5_3 o6 o7 => g (at' Try.f21 11) ⟨fr0 103 [(1, .ptr 0 0), (2, .ptr 1 0), (4, .own 4), (7, .ptr 5 0), (8, .v (.int .i64 s)), (9, .v (.int .i64 x))], [.box 24 [.v (.int .i64 o0), .v (.int .i64 o0_1), .v (.int .i64 o0_2), .v (.int .i64 o0_3), .rd ⟨false, 3, (.int .i64), o0_4⟩, .rd ⟨false, 3, (.int .i64), o0_5⟩], .box 24 [.v (.int .i64 o1), .v (.int .i64 o1_1), .v (.int .i64 o1_2), .v (.int .i64 o1_3), .own 2, .own 3], .row ⟨true, 3, (.int .i64), o2⟩, .row ⟨true, 3, (.int .i64), o3⟩, .row ⟨true, 3, (.int .i64), o4⟩, .box 24 [.v (.int .i64 o5), .v (.int .i64 o5_1), .v (.int .i64 o5_2), .v (.int .i64 o5_3), .own 6, .own 7], .row ⟨true, 3, (.int .i64), o6⟩, .row ⟨true, 3, (.int .i64), o7⟩]⟩) (fun r0 r1 r2 r3 r4 r5 r6 => K (.tup [.agg [.v (.int .i64 r0), .v (.int .i64 r1), .v (.int .i64 r2), .v (.int .i64 r3), .own 0, .own 1], .v (.int .i64 r4)]) [.row ⟨true, 3, (.int .i64), r5⟩, .row ⟨true, 3, (.int .i64), r6⟩]) s x o0 o0_1 o0_2 o0_3 o0_4 o0_5 o1 o1_1 o1_2 o1_3 o2 o3 o4 o5 o5_1 o5_2 o5_3 o6 o7 := gstep_tutorref05_Minimise_11 @l_tutorref05_Classes @l_tutorref04_Canon g K s x o0 o0_1 o0_2 o0_3 o0_4 o0_5 o1 o1_1 o1_2 o1_3 o2 o3 o4 o5 o5_1 o5_2 o5_3 o6 o7

theorem gentry_tutorref05_Minimise (l_tutorref05_Classes : {R : Type} → Int → Int → Int → Int → (List Int) → (List Int) → (Int → Int → (List Int) → Option R) → Option R) (l_tutorref04_Canon : {R : Type} → Int → Int → Int → Int → (List Int) → (List Int) → (Int → Int → Int → Int → Int → (List Int) → (List Int) → Option R) → Option R) {R : Type} (fuel : Nat) (K : AV → List O → Option R) (m : Int) (m_1 : Int) (m_2 : Int) (m_3 : Int) (m_4 : List Int) (m_5 : List Int) :
    fnRun Try.prog (T_tutorref05_Minimise @l_tutorref05_Classes @l_tutorref04_Canon) cuts_tutorref05_Minimise Try.f21 fuel [.agg [.v (.int .i64 m), .v (.int .i64 m_1), .v (.int .i64 m_2), .v (.int .i64 m_3), .rd ⟨false, 3, (.int .i64), m_4⟩, .rd ⟨false, 3, (.int .i64), m_5⟩]] [] K =
    (fun (g21_6 : Int → Int → Int → Int → Int → (List Int) → (List Int) → Int → Int → Int → Int → (List Int) → (List Int) → (List Int) → Int → Int → Int → Int → (List Int) → (List Int) → Option R) (g21_11 : Int → Int → Int → Int → Int → Int → (List Int) → (List Int) → Int → Int → Int → Int → (List Int) → (List Int) → (List Int) → Int → Int → Int → Int → (List Int) → (List Int) → Option R) (K0 : Int → Int → Int → Int → Int → (List Int) → (List Int) → Option R) (m : Int) (m_1 : Int) (m_2 : Int) (m_3 : Int) (m_4 : List Int) (m_5 : List Int) =>
    l_tutorref05_Classes m m_1 m_2 m_3 m_4 m_5
     (fun r1 r2 r3 =>
      bi (r2 != 0)
       (K0 0 0 0 0 r2 ([] : List Int) ([] : List Int))
       (g21_6 0 m m_1 m_2 m_3 m_4 m_5 0 0 0 0 ([] : List Int) ([] : List Int) r3 m m_1 m_2 0 ([] : List Int) ([] : List Int)))) (fun s o0 o0_1 o0_2 o0_3 o0_4 o0_5 o1 o1_1 o1_2 o1_3 o2 o3 o4 o5 o5_1 o5_2 o5_3 o6 o7 => (runO Try.prog (T_tutorref05_Minimise @l_tutorref05_Classes @l_tutorref04_Canon) cuts_tutorref05_Minimise 0 (finish Try.prog Try.f21 0 K) fuel) (at' Try.f21 6) ⟨fr0 103 [(1, .ptr 0 0), (2, .ptr 1 0), (4, .own 4), (7, .ptr 5 0), (8, .v (.int .i64 s))], [.box 24 [.v (.int .i64 o0), .v (.int .i64 o0_1), .v (.int .i64 o0_2), .v (.int .i64 o0_3), .rd ⟨false, 3, (.int .i64), o0_4⟩, .rd ⟨false, 3, (.int .i64), o0_5⟩], .box 24 [.v (.int .i64 o1), .v (.int .i64 o1_1), .v (.int .i64 o1_2), .v (.int .i64 o1_3), .own 2, .own 3], .row ⟨true, 3, (.int .i64), o2⟩, .row ⟨true, 3, (.int .i64), o3⟩, .row ⟨true, 3, (.int .i64), o4⟩, .box 24 [.v (.int .i64 o5), .v (.int .i64 o5_1), .v (.int .i64 o5_2), .v (.int .i64 o5_3), .own 6, .own 7], .row ⟨true, 3, (.int .i64), o6⟩, .row ⟨true, 3, (.int .i64), o7⟩]⟩) (fun s x o0 o0_1 o0_2 o0_3 o0_4 o0_5 o1 o1_1 o1_2 o1_3 o2 o3 o4 o5 o5_1 o5_2 o5_3 o6 o7 => (runO Try.prog (T_tutorref05_Minimise @l_tutorref05_Classes @l_tutorref04_Canon) cuts_tutorref05_Minimise 0 (finish Try.prog Try.f21 0 K) fuel) (at' Try.f21 11) ⟨fr0 103 [(1, .ptr 0 0), (2, .ptr 1 0), (4, .own 4), (7, .ptr 5 0), (8, .v (.int .i64 s)), (9, .v (.int .i64 x))], [.box 24 [.v (.int .i64 o0), .v (.int .i64 o0_1), .v (.int .i64 o0_2), .v (.int .i64 o0_3), .rd ⟨false, 3, (.int .i64), o0_4⟩, .rd ⟨false, 3, (.int .i64), o0_5⟩], .box 24 [.v (.int .i64 o1), .v (.int .i64 o1_1), .v (.int .i64 o1_2), .v (.int .i64 o1_3), .own 2, .own 3], .row ⟨true, 3, (.int .i64), o2⟩, .row ⟨true, 3, (.int .i64), o3⟩, .row ⟨true, 3, (.int .i64), o4⟩, .box 24 [.v (.int .i64 o5), .v (.int .i64 o5_1), .v (.int .i64 o5_2), .v (.int .i64 o5_3), .own 6, .own 7], .row ⟨true, 3, (.int .i64), o6⟩, .row ⟨true, 3, (.int .i64), o7⟩]⟩) (fun r0 r1 r2 r3 r4 r5 r6 => K (.tup [.agg [.v (.int .i64 r0), .v (.int .i64 r1), .v (.int .i64 r2), .v (.int .i64 r3), .own 0, .own 1], .v (.int .i64 r4)]) [.row ⟨true, 3, (.int .i64), r5⟩, .row ⟨true, 3, (.int .i64), r6⟩]) m m_1 m_2 m_3 m_4 m_5 := by kernel_rfl

theorem entry_tutorref05_Minimise {R : Type} (fuel : Nat) (K : AV → List O → Option R) (m : Int) (m_1 : Int) (m_2 : Int) (m_3 : Int) (m_4 : List Int) (m_5 : List Int) :
    fnRun Try.prog (T_tutorref05_Minimise @l_tutorref05_Classes @l_tutorref04_Canon) cuts_tutorref05_Minimise Try.f21 fuel [.agg [.v (.int .i64 m), .v (.int .i64 m_1), .v (.int .i64 m_2), .v (.int .i64 m_3), .rd ⟨false, 3, (.int .i64), m_4⟩, .rd ⟨false, 3, (.int .i64), m_5⟩]] [] K =
    e_tutorref05_Minimise (fun s o0 o0_1 o0_2 o0_3 o0_4 o0_5 o1 o1_1 o1_2 o1_3 o2 o3 o4 o5 o5_1 o5_2 o5_3 o6 o7 => (runO Try.prog (T_tutorref05_Minimise @l_tutorref05_Classes @l_tutorref04_Canon) cuts_tutorref05_Minimise 0 (finish Try.prog Try.f21 0 K) fuel) (at' Try.f21 6) ⟨fr0 103 [(1, .ptr 0 0), (2, .ptr 1 0), (4, .own 4), (7, .ptr 5 0), (8, .v (.int .i64 s))], [.box 24 [.v (.int .i64 o0), .v (.int .i64 o0_1), .v (.int .i64 o0_2), .v (.int .i64 o0_3), .rd ⟨false, 3, (.int .i64), o0_4⟩, .rd ⟨false, 3, (.int .i64), o0_5⟩], .box 24 [.v (.int .i64 o1), .v (.int .i64 o1_1), .v (.int .i64 o1_2), .v (.int .i64 o1_3), .own 2, .own 3], .row ⟨true, 3, (.int .i64), o2⟩, .row ⟨true, 3, (.int .i64), o3⟩, .row ⟨true, 3, (.int .i64), o4⟩, .box 24 [.v (.int .i64 o5), .v (.int .i64 o5_1), .v (.int .i64 o5_2), .v (.int .i64 o5_3), .own 6, .own 7], .row ⟨true, 3, (.int .i64), o6⟩, .row ⟨true, 3, (.int .i64), o7⟩]⟩) (fun s x o0 o0_1 o0_2 o0_3 o0_4 o0_5 o1 o1_1 o1_2 o1_3 o2 o3 o4 o5 o5_1 o5_2 o5_3 o6 o7 => (runO Try.prog (T_tutorref05_Minimise @l_tutorref05_Classes @l_tutorref04_Canon) cuts_tutorref05_Minimise 0 (finish Try.prog Try.f21 0 K) fuel) (at' Try.f21 11) ⟨fr0 103 [(1, .ptr 0 0), (2, .ptr 1 0), (4, .own 4), (7, .ptr 5 0), (8, .v (.int .i64 s)), (9, .v (.int .i64 x))], [.box 24 [.v (.int .i64 o0), .v (.int .i64 o0_1), .v (.int .i64 o0_2), .v (.int .i64 o0_3), .rd ⟨false, 3, (.int .i64), o0_4⟩, .rd ⟨false, 3, (.int .i64), o0_5⟩], .box 24 [.v (.int .i64 o1), .v (.int .i64 o1_1), .v (.int .i64 o1_2), .v (.int .i64 o1_3), .own 2, .own 3], .row ⟨true, 3, (.int .i64), o2⟩, .row ⟨true, 3, (.int .i64), o3⟩, .row ⟨true, 3, (.int .i64), o4⟩, .box 24 [.v (.int .i64 o5), .v (.int .i64 o5_1), .v (.int .i64 o5_2), .v (.int .i64 o5_3), .own 6, .own 7], .row ⟨true, 3, (.int .i64), o6⟩, .row ⟨true, 3, (.int .i64), o7⟩]⟩) (fun r0 r1 r2 r3 r4 r5 r6 => K (.tup [.agg [.v (.int .i64 r0), .v (.int .i64 r1), .v (.int .i64 r2), .v (.int .i64 r3), .own 0, .own 1], .v (.int .i64 r4)]) [.row ⟨true, 3, (.int .i64), r5⟩, .row ⟨true, 3, (.int .i64), r6⟩]) m m_1 m_2 m_3 m_4 m_5 := gentry_tutorref05_Minimise @l_tutorref05_Classes @l_tutorref04_Canon fuel K m m_1 m_2 m_3 m_4 m_5

theorem runs_tutorref05_Minimise {R : Type} (K : AV → List O → Option R) : ∀ fuel : Nat,
    (fun s o0 o0_1 o0_2 o0_3 o0_4 o0_5 o1 o1_1 o1_2 o1_3 o2 o3 o4 o5 o5_1 o5_2 o5_3 o6 o7 => (runO Try.prog (T_tutorref05_Minimise @l_tutorref05_Classes @l_tutorref04_Canon) cuts_tutorref05_Minimise 0 (finish Try.prog Try.f21 0 K) fuel) (at' Try.f21 6) ⟨fr0 103 [(1, .ptr 0 0), (2, .ptr 1 0), (4, .own 4), (7, .ptr 5 0), (8, .v (.int .i64 s))], [.box 24 [.v (.int .i64 o0), .v (.int .i64 o0_1), .v (.int .i64 o0_2), .v (.int .i64 o0_3), .rd ⟨false, 3, (.int .i64), o0_4⟩, .rd ⟨false, 3, (.int .i64), o0_5⟩], .box 24 [.v (.int .i64 o1), .v (.int .i64 o1_1), .v (.int .i64 o1_2), .v (.int .i64 o1_3), .own 2, .own 3], .row ⟨true, 3, (.int .i64), o2⟩, .row ⟨true, 3, (.int .i64), o3⟩, .row ⟨true, 3, (.int .i64), o4⟩, .box 24 [.v (.int .i64 o5), .v (.int .i64 o5_1), .v (.int .i64 o5_2), .v (.int .i64 o5_3), .own 6, .own 7], .row ⟨true, 3, (.int .i64), o6⟩, .row ⟨true, 3, (.int .i64), o7⟩]⟩) = (run_tutorref05_Minimise (fun r0 r1 r2 r3 r4 r5 r6 => K (.tup [.agg [.v (.int .i64 r0), .v (.int .i64 r1), .v (.int .i64 r2), .v (.int .i64 r3), .own 0, .own 1], .v (.int .i64 r4)]) [.row ⟨true, 3, (.int .i64), r5⟩, .row ⟨true, 3, (.int .i64), r6⟩]) fuel).1 ∧
    (fun s x o0 o0_1 o0_2 o0_3 o0_4 o0_5 o1 o1_1 o1_2 o1_3 o2 o3 o4 o5 o5_1 o5_2 o5_3 o6 o7 => (runO Try.prog (T_tutorref05_Minimise @l_tutorref05_Classes @l_tutorref04_Canon) cuts_tutorref05_Minimise 0 (finish Try.prog Try.f21 0 K) fuel) (at' Try.f21 11) ⟨fr0 103 [(1, .ptr 0 0), (2, .ptr 1 0), (4, .own 4), (7, .ptr 5 0), (8, .v (.int .i64 s)), (9, .v (.int .i64 x))], [.box 24 [.v (.int .i64 o0), .v (.int .i64 o0_1), .v (.int .i64 o0_2), .v (.int .i64 o0_3), .rd ⟨false, 3, (.int .i64), o0_4⟩, .rd ⟨false, 3, (.int .i64), o0_5⟩], .box 24 [.v (.int .i64 o1), .v (.int .i64 o1_1), .v (.int .i64 o1_2), .v (.int .i64 o1_3), .own 2, .own 3], .row ⟨true, 3, (.int .i64), o2⟩, .row ⟨true, 3, (.int .i64), o3⟩, .row ⟨true, 3, (.int .i64), o4⟩, .box 24 [.v (.int .i64 o5), .v (.int .i64 o5_1), .v (.int .i64 o5_2), .v (.int .i64 o5_3), .own 6, .own 7], .row ⟨true, 3, (.int .i64), o6⟩, .row ⟨true, 3, (.int .i64), o7⟩]⟩) = (run_tutorref05_Minimise (fun r0 r1 r2 r3 r4 r5 r6 => K (.tup [.agg [.v (.int .i64 r0), .v (.int .i64 r1), .v (.int .i64 r2), .v (.int .i64 r3), .own 0, .own 1], .v (.int .i64 r4)]) [.row ⟨true, 3, (.int .i64), r5⟩, .row ⟨true, 3, (.int .i64), r6⟩]) fuel).2
  | 0 => ⟨rfl, rfl⟩
  | fuel + 1 => by
    have ih := runs_tutorref05_Minimise K fuel
    refine ⟨?_, ?_⟩
    · funext s o0 o0_1 o0_2 o0_3 o0_4 o0_5 o1 o1_1 o1_2 o1_3 o2 o3 o4 o5 o5_1 o5_2 o5_3 o6 o7
      refine (step_tutorref05_Minimise_6 _ K s o0 o0_1 o0_2 o0_3 o0_4 o0_5 o1 o1_1 o1_2 o1_3 o2 o3 o4 o5 o5_1 o5_2 o5_3 o6 o7).trans ?_
      rw [ih.1, ih.2]
      rfl
    · funext s x o0 o0_1 o0_2 o0_3 o0_4 o0_5 o1 o1_1 o1_2 o1_3 o2 o3 o4 o5 o5_1 o5_2 o5_3 o6 o7
      refine (step_tutorref05_Minimise_11 _ K s x o0 o0_1 o0_2 o0_3 o0_4 o0_5 o1 o1_1 o1_2 o1_3 o2 o3 o4 o5 o5_1 o5_2 o5_3 o6 o7).trans ?_
      rw [ih.1, ih.2]
      rfl

def S_tutorref05_Minimise (l_tutorref05_Minimise : {R : Type} → Int → Int → Int → Int → (List Int) → (List Int) → (Int → Int → Int → Int → Int → (List Int) → (List Int) → Option R) → Option R) : Sum := ⟨[], fun {R} args ob K => match args, ob with
  | [.agg [.v (.int .i64 m), .v (.int .i64 m_1), .v (.int .i64 m_2), .v (.int .i64 m_3), .rd ⟨false, 3, (.int .i64), m_4⟩, .rd ⟨false, 3, (.int .i64), m_5⟩]], [] => l_tutorref05_Minimise m m_1 m_2 m_3 m_4 m_5 (fun r0 r1 r2 r3 r4 r5 r6 => K (.tup [.agg [.v (.int .i64 r0), .v (.int .i64 r1), .v (.int .i64 r2), .v (.int .i64 r3), .own 0, .own 1], .v (.int .i64 r4)]) [.row ⟨true, 3, (.int .i64), r5⟩, .row ⟨true, 3, (.int .i64), r6⟩])
  | _, _ => none⟩

theorem sound_tutorref05_Minimise : Sound Try.prog 21 (S_tutorref05_Minimise @l_tutorref05_Minimise) := by
  refine fn_sound (cuts := cuts_tutorref05_Minimise) (fn := Try.f21) (Γ := (T_tutorref05_Minimise @l_tutorref05_Classes @l_tutorref04_Canon)) wide right_T_tutorref05_Minimise Try.func21 fun {R} K r args ob h => ?_
  unfold S_tutorref05_Minimise at h
  dsimp only at h
  split at h
  · obtain ⟨n, hn⟩ := ok_tutorref05_Minimise _ _ _ _ _ _ _ h
    refine ⟨Nat.le_of_ble_eq_true (by kernel_rfl), n, (entry_tutorref05_Minimise n K _ _ _ _ _ _).trans ?_⟩
    rw [(runs_tutorref05_Minimise K n).1, (runs_tutorref05_Minimise K n).2]
    exact hn
  · cases h

theorem call_tutorref05_Minimise : Callable Try.prog 21 := ⟨_, Try.func21, by kernel_rfl, by kernel_rfl⟩

def T_tutorref03_Same (l_tutorref01_Same : {R : Type} → (List Int) → (List Int) → (Bool → Option R) → Option R) : FuncId → Option Sum := (addS G0 14 (S_tutorref01_Same @l_tutorref01_Same))

theorem right_T_tutorref03_Same : Right Try.prog (T_tutorref03_Same @l_tutorref01_Same) := (right_add right_G0 call_tutorref01_Same sound_tutorref01_Same)

abbrev cuts_tutorref03_Same : Cuts := []

theorem gentry_tutorref03_Same (l_tutorref01_Same : {R : Type} → (List Int) → (List Int) → (Bool → Option R) → Option R) {R : Type} (K : AV → List O → Option R) (a : Int) (a_1 : Int) (a_2 : Int) (a_3 : Int) (a_4 : List Int) (a_5 : List Int) (b : Int) (b_1 : Int) (b_2 : Int) (b_3 : Int) (b_4 : List Int) (b_5 : List Int) :
    fnRun Try.prog (T_tutorref03_Same @l_tutorref01_Same) cuts_tutorref03_Same Try.f16 0 [.agg [.v (.int .i64 a), .v (.int .i64 a_1), .v (.int .i64 a_2), .v (.int .i64 a_3), .rd ⟨false, 3, (.int .i64), a_4⟩, .rd ⟨false, 3, (.int .i64), a_5⟩], .agg [.v (.int .i64 b), .v (.int .i64 b_1), .v (.int .i64 b_2), .v (.int .i64 b_3), .rd ⟨false, 3, (.int .i64), b_4⟩, .rd ⟨false, 3, (.int .i64), b_5⟩]] [] K =
    (fun (a : Int) (a_1 : Int) (a_2 : Int) (a_3 : Int) (a_4 : List Int) (a_5 : List Int) (b : Int) (b_1 : Int) (b_2 : Int) (b_3 : Int) (b_4 : List Int) (b_5 : List Int) (K0 : Bool → Option R) =>
    bi (a == b)
     (bi (a_1 == b_1)
      (bi (a_2 == b_2)
       (bi (a_3 == b_3)
        (l_tutorref01_Same a_4 b_4
         (fun r1 =>
          bi r1
           (l_tutorref01_Same a_5 b_5
            (fun r2 =>
             K0 r2))
           (K0 false)))
        (K0 false))
       (K0 false))
      (K0 false))
     (K0 false)) a a_1 a_2 a_3 a_4 a_5 b b_1 b_2 b_3 b_4 b_5 (fun r0 => K (.v (.bool r0)) []) := by kernel_rfl

theorem entry_tutorref03_Same {R : Type} (K : AV → List O → Option R) (a : Int) (a_1 : Int) (a_2 : Int) (a_3 : Int) (a_4 : List Int) (a_5 : List Int) (b : Int) (b_1 : Int) (b_2 : Int) (b_3 : Int) (b_4 : List Int) (b_5 : List Int) :
    fnRun Try.prog (T_tutorref03_Same @l_tutorref01_Same) cuts_tutorref03_Same Try.f16 0 [.agg [.v (.int .i64 a), .v (.int .i64 a_1), .v (.int .i64 a_2), .v (.int .i64 a_3), .rd ⟨false, 3, (.int .i64), a_4⟩, .rd ⟨false, 3, (.int .i64), a_5⟩], .agg [.v (.int .i64 b), .v (.int .i64 b_1), .v (.int .i64 b_2), .v (.int .i64 b_3), .rd ⟨false, 3, (.int .i64), b_4⟩, .rd ⟨false, 3, (.int .i64), b_5⟩]] [] K =
    l_tutorref03_Same a a_1 a_2 a_3 a_4 a_5 b b_1 b_2 b_3 b_4 b_5 (fun r0 => K (.v (.bool r0)) []) := gentry_tutorref03_Same @l_tutorref01_Same K a a_1 a_2 a_3 a_4 a_5 b b_1 b_2 b_3 b_4 b_5

def S_tutorref03_Same (l_tutorref03_Same : {R : Type} → Int → Int → Int → Int → (List Int) → (List Int) → Int → Int → Int → Int → (List Int) → (List Int) → (Bool → Option R) → Option R) : Sum := ⟨[], fun {R} args ob K => match args, ob with
  | [.agg [.v (.int .i64 a), .v (.int .i64 a_1), .v (.int .i64 a_2), .v (.int .i64 a_3), .rd ⟨false, 3, (.int .i64), a_4⟩, .rd ⟨false, 3, (.int .i64), a_5⟩], .agg [.v (.int .i64 b), .v (.int .i64 b_1), .v (.int .i64 b_2), .v (.int .i64 b_3), .rd ⟨false, 3, (.int .i64), b_4⟩, .rd ⟨false, 3, (.int .i64), b_5⟩]], [] => l_tutorref03_Same a a_1 a_2 a_3 a_4 a_5 b b_1 b_2 b_3 b_4 b_5 (fun r0 => K (.v (.bool r0)) [])
  | _, _ => none⟩

theorem sound_tutorref03_Same : Sound Try.prog 16 (S_tutorref03_Same @l_tutorref03_Same) := by
  refine fn_sound (cuts := cuts_tutorref03_Same) (fn := Try.f16) (Γ := (T_tutorref03_Same @l_tutorref01_Same)) wide right_T_tutorref03_Same Try.func16 fun {R} K r args ob h => ?_
  unfold S_tutorref03_Same at h
  dsimp only at h
  split at h
  · exact ⟨Nat.le_of_ble_eq_true (by kernel_rfl), 0, (entry_tutorref03_Same K _ _ _ _ _ _ _ _ _ _ _ _).trans h⟩
  · cases h

theorem call_tutorref03_Same : Callable Try.prog 16 := ⟨_, Try.func16, by kernel_rfl, by kernel_rfl⟩

def T_tutorlaw07_DifferEqual (l_tutorlaw07_live : {R : Type} → (Bool → Option R) → Option R) (l_tutorlaw07_num : {R : Type} → Int → (Int → Option R) → Option R) (l_tutorref05_Classes : {R : Type} → Int → Int → Int → Int → (List Int) → (List Int) → (Int → Int → (List Int) → Option R) → Option R) (l_differ_Apart : {R : Type} → Int → Int → Int → Int → (List Int) → (List Int) → Int → Int → (Bool → Int → (List Int) → Option R) → Option R) (l_tutorref03_Same : {R : Type} → Int → Int → Int → Int → (List Int) → (List Int) → Int → Int → Int → Int → (List Int) → (List Int) → (Bool → Option R) → Option R) (l_tutorref01_Same : {R : Type} → (List Int) → (List Int) → (Bool → Option R) → Option R) (l_tutorref05_Minimise : {R : Type} → Int → Int → Int → Int → (List Int) → (List Int) → (Int → Int → Int → Int → Int → (List Int) → (List Int) → Option R) → Option R) (l_differ_Separate : {R : Type} → Int → Int → Int → Int → (List Int) → (List Int) → Int → Int → Int → Int → (List Int) → (List Int) → (Bool → Int → (List Int) → Option R) → Option R) (l_tutorref03_Big : {R : Type} → Int → Int → Int → Int → (List Int) → (List Int) → Int → (Bool → Option R) → Option R) : FuncId → Option Sum := (addS (addS (addS (addS (addS (addS (addS (addS (addS G0 9 (S_tutorlaw07_live @l_tutorlaw07_live)) 15 (S_tutorlaw07_num @l_tutorlaw07_num)) 22 (S_tutorref05_Classes @l_tutorref05_Classes)) 17 (S_differ_Apart @l_differ_Apart)) 16 (S_tutorref03_Same @l_tutorref03_Same)) 14 (S_tutorref01_Same @l_tutorref01_Same)) 21 (S_tutorref05_Minimise @l_tutorref05_Minimise)) 11 (S_differ_Separate @l_differ_Separate)) 8 (S_tutorref03_Big @l_tutorref03_Big))

theorem right_T_tutorlaw07_DifferEqual : Right Try.prog (T_tutorlaw07_DifferEqual @l_tutorlaw07_live @l_tutorlaw07_num @l_tutorref05_Classes @l_differ_Apart @l_tutorref03_Same @l_tutorref01_Same @l_tutorref05_Minimise @l_differ_Separate @l_tutorref03_Big) := (right_add (right_add (right_add (right_add (right_add (right_add (right_add (right_add (right_add right_G0 call_tutorlaw07_live sound_tutorlaw07_live) call_tutorlaw07_num sound_tutorlaw07_num) call_tutorref05_Classes sound_tutorref05_Classes) call_differ_Apart sound_differ_Apart) call_tutorref03_Same sound_tutorref03_Same) call_tutorref01_Same sound_tutorref01_Same) call_tutorref05_Minimise sound_tutorref05_Minimise) call_differ_Separate sound_differ_Separate) call_tutorref03_Big sound_tutorref03_Big)

abbrev cuts_tutorlaw07_DifferEqual : Cuts := []

theorem gentry_tutorlaw07_DifferEqual (l_tutorlaw07_live : {R : Type} → (Bool → Option R) → Option R) (l_tutorlaw07_num : {R : Type} → Int → (Int → Option R) → Option R) (l_tutorref05_Classes : {R : Type} → Int → Int → Int → Int → (List Int) → (List Int) → (Int → Int → (List Int) → Option R) → Option R) (l_differ_Apart : {R : Type} → Int → Int → Int → Int → (List Int) → (List Int) → Int → Int → (Bool → Int → (List Int) → Option R) → Option R) (l_tutorref03_Same : {R : Type} → Int → Int → Int → Int → (List Int) → (List Int) → Int → Int → Int → Int → (List Int) → (List Int) → (Bool → Option R) → Option R) (l_tutorref01_Same : {R : Type} → (List Int) → (List Int) → (Bool → Option R) → Option R) (l_tutorref05_Minimise : {R : Type} → Int → Int → Int → Int → (List Int) → (List Int) → (Int → Int → Int → Int → Int → (List Int) → (List Int) → Option R) → Option R) (l_differ_Separate : {R : Type} → Int → Int → Int → Int → (List Int) → (List Int) → Int → Int → Int → Int → (List Int) → (List Int) → (Bool → Int → (List Int) → Option R) → Option R) (l_tutorref03_Big : {R : Type} → Int → Int → Int → Int → (List Int) → (List Int) → Int → (Bool → Option R) → Option R) {R : Type} (K : AV → List O → Option R) (a : Int) (a_1 : Int) (a_2 : Int) (a_3 : Int) (a_4 : List Int) (a_5 : List Int) (b : Int) (b_1 : Int) (b_2 : Int) (b_3 : Int) (b_4 : List Int) (b_5 : List Int) (s : Int) (t : Int) :
    fnRun Try.prog (T_tutorlaw07_DifferEqual @l_tutorlaw07_live @l_tutorlaw07_num @l_tutorref05_Classes @l_differ_Apart @l_tutorref03_Same @l_tutorref01_Same @l_tutorref05_Minimise @l_differ_Separate @l_tutorref03_Big) cuts_tutorlaw07_DifferEqual Try.f6 0 [.agg [.v (.int .i64 a), .v (.int .i64 a_1), .v (.int .i64 a_2), .v (.int .i64 a_3), .rd ⟨false, 3, (.int .i64), a_4⟩, .rd ⟨false, 3, (.int .i64), a_5⟩], .agg [.v (.int .i64 b), .v (.int .i64 b_1), .v (.int .i64 b_2), .v (.int .i64 b_3), .rd ⟨false, 3, (.int .i64), b_4⟩, .rd ⟨false, 3, (.int .i64), b_5⟩], .v (.int .i64 s), .v (.int .i64 t)] [] K =
    (fun (a : Int) (a_1 : Int) (a_2 : Int) (a_3 : Int) (a_4 : List Int) (a_5 : List Int) (b : Int) (b_1 : Int) (b_2 : Int) (b_3 : Int) (b_4 : List Int) (b_5 : List Int) (s : Int) (t : Int) (K0 : Bool → Option R) =>
    l_tutorref03_Big a a_1 a_2 a_3 a_4 a_5 20
     (fun r1 =>
      bi r1
       (l_tutorlaw07_live
        (fun r2 =>
         K0 r2))
       (l_tutorref03_Big b b_1 b_2 b_3 b_4 b_5 20
        (fun r3 =>
         bi r3
          (l_tutorlaw07_live
           (fun r4 =>
            K0 r4))
          (l_differ_Separate a a_1 a_2 a_3 a_4 a_5 b b_1 b_2 b_3 b_4 b_5
           (fun r5 r6 r7 =>
            l_differ_Separate b b_1 b_2 b_3 b_4 b_5 a a_1 a_2 a_3 a_4 a_5
             (fun r8 r9 r10 =>
              l_tutorlaw07_num r6
               (fun r11 =>
                bi (r11 == 0)
                 (l_tutorref05_Minimise a a_1 a_2 a_3 a_4 a_5
                  (fun r12 r13 r14 r15 r16 r17 r18 =>
                   l_tutorref05_Minimise b b_1 b_2 b_3 b_4 b_5
                    (fun r19 r20 r21 r22 r23 r24 r25 =>
                     l_tutorlaw07_num r9
                      (fun r26 =>
                       bi (r26 != 0)
                        (K0 false)
                        (bi (!(r5 == r8))
                         (K0 false)
                         (l_tutorref01_Same r7 r10
                          (fun r27 =>
                           bi (!r27)
                            (K0 false)
                            (l_tutorref03_Same r12 r13 r14 r15 r17 r18 r19 r20 r21 r22 r24 r25
                             (fun r28 =>
                              bi (r5 == r28)
                               (K0 false)
                               (l_differ_Apart a a_1 a_2 a_3 a_4 a_5 s t
                                (fun r29 r30 r31 =>
                                 l_tutorref05_Classes a a_1 a_2 a_3 a_4 a_5
                                  (fun r32 r33 r34 =>
                                   l_tutorlaw07_num r30
                                    (fun r35 =>
                                     bi (r35 != 0)
                                      (bi ((r31.length : Int) == 0)
                                       (bi (!r29)
                                        (l_tutorlaw07_live
                                         (fun r36 =>
                                          K0 r36))
                                        (K0 false))
                                       (K0 false))
                                      (bi (r33 != 0)
                                       (bi ((r31.length : Int) == 0)
                                        (bi (!r29)
                                         (l_tutorlaw07_live
                                          (fun r37 =>
                                           K0 r37))
                                         (K0 false))
                                        (K0 false))
                                       (bi (a == 2)
                                        (bi (decide (0 ≤ s ∧ s < ((r34.length : Nat) : Int)))
                                         (bi (decide (0 ≤ t ∧ t < ((r34.length : Nat) : Int)))
                                          (bi (r29 == ((r34.getD s.toNat 0) != (r34.getD t.toNat 0)))
                                           (bi (!r29)
                                            (l_tutorlaw07_live
                                             (fun r38 =>
                                              K0 r38))
                                            (bi (decide ((r31.length : Int) < (IntKind.i64.wrap (a_3 + 1))))
                                             (l_tutorlaw07_live
                                              (fun r39 =>
                                               K0 r39))
                                             (K0 false)))
                                           (K0 false))
                                          none)
                                         none)
                                        (bi (decide (0 ≤ s ∧ s < ((r34.length : Nat) : Int)))
                                         (bi (decide (0 ≤ t ∧ t < ((r34.length : Nat) : Int)))
                                          (bi (r29 == ((r34.getD s.toNat 0) != (r34.getD t.toNat 0)))
                                           (bi (!r29)
                                            (l_tutorlaw07_live
                                             (fun r40 =>
                                              K0 r40))
                                            (bi (decide ((r31.length : Int) < a_3))
                                             (l_tutorlaw07_live
                                              (fun r41 =>
                                               K0 r41))
                                             (K0 false)))
                                           (K0 false))
                                          none)
                                         none))))))))))))))))
                 (l_differ_Apart a a_1 a_2 a_3 a_4 a_5 s t
                  (fun r42 r43 r44 =>
                   l_tutorref05_Classes a a_1 a_2 a_3 a_4 a_5
                    (fun r45 r46 r47 =>
                     l_tutorlaw07_num r43
                      (fun r48 =>
                       bi (r48 != 0)
                        (bi ((r44.length : Int) == 0)
                         (bi (!r42)
                          (l_tutorlaw07_live
                           (fun r49 =>
                            K0 r49))
                          (K0 false))
                         (K0 false))
                        (bi (r46 != 0)
                         (bi ((r44.length : Int) == 0)
                          (bi (!r42)
                           (l_tutorlaw07_live
                            (fun r50 =>
                             K0 r50))
                           (K0 false))
                          (K0 false))
                         (bi (a == 2)
                          (bi (decide (0 ≤ s ∧ s < ((r47.length : Nat) : Int)))
                           (bi (decide (0 ≤ t ∧ t < ((r47.length : Nat) : Int)))
                            (bi (r42 == ((r47.getD s.toNat 0) != (r47.getD t.toNat 0)))
                             (bi (!r42)
                              (l_tutorlaw07_live
                               (fun r51 =>
                                K0 r51))
                              (bi (decide ((r44.length : Int) < (IntKind.i64.wrap (a_3 + 1))))
                               (l_tutorlaw07_live
                                (fun r52 =>
                                 K0 r52))
                               (K0 false)))
                             (K0 false))
                            none)
                           none)
                          (bi (decide (0 ≤ s ∧ s < ((r47.length : Nat) : Int)))
                           (bi (decide (0 ≤ t ∧ t < ((r47.length : Nat) : Int)))
                            (bi (r42 == ((r47.getD s.toNat 0) != (r47.getD t.toNat 0)))
                             (bi (!r42)
                              (l_tutorlaw07_live
                               (fun r53 =>
                                K0 r53))
                              (bi (decide ((r44.length : Int) < a_3))
                               (l_tutorlaw07_live
                                (fun r54 =>
                                 K0 r54))
                               (K0 false)))
                             (K0 false))
                            none)
                           none))))))))))))))) a a_1 a_2 a_3 a_4 a_5 b b_1 b_2 b_3 b_4 b_5 s t (fun r0 => K (.v (.bool r0)) []) := by kernel_rfl

theorem entry_tutorlaw07_DifferEqual {R : Type} (K : AV → List O → Option R) (a : Int) (a_1 : Int) (a_2 : Int) (a_3 : Int) (a_4 : List Int) (a_5 : List Int) (b : Int) (b_1 : Int) (b_2 : Int) (b_3 : Int) (b_4 : List Int) (b_5 : List Int) (s : Int) (t : Int) :
    fnRun Try.prog (T_tutorlaw07_DifferEqual @l_tutorlaw07_live @l_tutorlaw07_num @l_tutorref05_Classes @l_differ_Apart @l_tutorref03_Same @l_tutorref01_Same @l_tutorref05_Minimise @l_differ_Separate @l_tutorref03_Big) cuts_tutorlaw07_DifferEqual Try.f6 0 [.agg [.v (.int .i64 a), .v (.int .i64 a_1), .v (.int .i64 a_2), .v (.int .i64 a_3), .rd ⟨false, 3, (.int .i64), a_4⟩, .rd ⟨false, 3, (.int .i64), a_5⟩], .agg [.v (.int .i64 b), .v (.int .i64 b_1), .v (.int .i64 b_2), .v (.int .i64 b_3), .rd ⟨false, 3, (.int .i64), b_4⟩, .rd ⟨false, 3, (.int .i64), b_5⟩], .v (.int .i64 s), .v (.int .i64 t)] [] K =
    l_tutorlaw07_DifferEqual a a_1 a_2 a_3 a_4 a_5 b b_1 b_2 b_3 b_4 b_5 s t (fun r0 => K (.v (.bool r0)) []) := gentry_tutorlaw07_DifferEqual @l_tutorlaw07_live @l_tutorlaw07_num @l_tutorref05_Classes @l_differ_Apart @l_tutorref03_Same @l_tutorref01_Same @l_tutorref05_Minimise @l_differ_Separate @l_tutorref03_Big K a a_1 a_2 a_3 a_4 a_5 b b_1 b_2 b_3 b_4 b_5 s t

def S_tutorlaw07_DifferEqual (l_tutorlaw07_DifferEqual : {R : Type} → Int → Int → Int → Int → (List Int) → (List Int) → Int → Int → Int → Int → (List Int) → (List Int) → Int → Int → (Bool → Option R) → Option R) : Sum := ⟨[], fun {R} args ob K => match args, ob with
  | [.agg [.v (.int .i64 a), .v (.int .i64 a_1), .v (.int .i64 a_2), .v (.int .i64 a_3), .rd ⟨false, 3, (.int .i64), a_4⟩, .rd ⟨false, 3, (.int .i64), a_5⟩], .agg [.v (.int .i64 b), .v (.int .i64 b_1), .v (.int .i64 b_2), .v (.int .i64 b_3), .rd ⟨false, 3, (.int .i64), b_4⟩, .rd ⟨false, 3, (.int .i64), b_5⟩], .v (.int .i64 s), .v (.int .i64 t)], [] => l_tutorlaw07_DifferEqual a a_1 a_2 a_3 a_4 a_5 b b_1 b_2 b_3 b_4 b_5 s t (fun r0 => K (.v (.bool r0)) [])
  | _, _ => none⟩

theorem sound_tutorlaw07_DifferEqual : Sound Try.prog 6 (S_tutorlaw07_DifferEqual @l_tutorlaw07_DifferEqual) := by
  refine fn_sound (cuts := cuts_tutorlaw07_DifferEqual) (fn := Try.f6) (Γ := (T_tutorlaw07_DifferEqual @l_tutorlaw07_live @l_tutorlaw07_num @l_tutorref05_Classes @l_differ_Apart @l_tutorref03_Same @l_tutorref01_Same @l_tutorref05_Minimise @l_differ_Separate @l_tutorref03_Big)) wide right_T_tutorlaw07_DifferEqual Try.func6 fun {R} K r args ob h => ?_
  unfold S_tutorlaw07_DifferEqual at h
  dsimp only at h
  split at h
  · exact ⟨Nat.le_of_ble_eq_true (by kernel_rfl), 0, (entry_tutorlaw07_DifferEqual K _ _ _ _ _ _ _ _ _ _ _ _ _ _).trans h⟩
  · cases h

theorem call_tutorlaw07_DifferEqual : Callable Try.prog 6 := ⟨_, Try.func6, by kernel_rfl, by kernel_rfl⟩


end
end Go.Ev
