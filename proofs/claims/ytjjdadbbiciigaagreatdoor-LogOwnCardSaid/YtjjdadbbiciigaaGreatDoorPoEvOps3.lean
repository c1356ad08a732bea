/- Each operation of the abstract machine is one of the machine's: those that only reckon. -/
import Derived.Test.YtjjdadbbiciigaaGreatDoorPoEvFlat
namespace Go.Ev
set_option linter.unusedVariables false
set_option linter.unusedSimpArgs false
set_option linter.unusedSectionVars false
variable [tG : TabG]

variable {P : Program} {R : Type} {cx : Cx} {β β' : List Value} {ob ob' : List O} {w w' : World} {σ σ' : St} {a a' : Act}
variable {o : Oper} {K : AV -> St -> Option R} {r : R} {Q : Exit -> Act -> World -> Prop} {Γ : FuncId -> Option Sum}

abbrev Goal (P : Program) (cx : Cx) (K : AV -> St -> Option R) (r : R) (o : Oper) (lvl : Nat) (β : List Value) (σ : St) (a : Act) (w : World) (Q : Exit -> Act -> World -> Prop) : Prop :=
 o.wp P a w (Post cx K r o lvl β σ.ob a w) Q

theorem wp_assign {x : Operand} (ho : o.op = .assign x) (g : Good cx β σ a w) (h : evOp P Γ o σ K = some r) (lvl : Nat) : Goal P cx K r o lvl β σ a w Q := by
 simp only [evOp, ho] at h
 obtain ⟨β', h1, h2, _, _, _⟩ := prom_good (P := P) (t := o.type) (x := σ.ev x) (v := a.eval x) (σ := σ) (a := a) ⟨g.W, g.A, g.ev x⟩
 exact wp_value (by simp [execOp, ho]) ⟨_, _, _, β', h, rfl, h1, .refl _, h2.mono (Nat.zero_le _)⟩

def Pu (P : Program) (cx : Cx) (K : AV -> St -> Option R) (r : R) (o : Oper) (β : List Value) (σ : St) (a : Act) (w : World) : Prop :=
 ∃ x v, (K x σ = some r ∧ RepV w (okB cx β σ.ob) β x v) ∧ ∀ w', (execOp a.eval o).run P w' = .ok (.value v) w'

theorem pu_mk {x : AV} {v : Value} (h1 : ∀ w', (execOp a.eval o).run P w' = .ok (.value v) w') (h : K x σ = some r ∧ RepV w (okB cx β σ.ob) β x v) : Pu P cx K r o β σ a w := ⟨x, v, h, h1⟩

theorem Pu.goal (g : Good cx β σ a w) (h : Pu P cx K r o β σ a w) (lvl : Nat) : Goal P cx K r o lvl β σ a w Q := by
 obtain ⟨x, v, ⟨h1, h2⟩, h3⟩ := h
 exact wp_value (h3 w) (Post.same g h1 h2)

theorem pu_pick {c x y : Operand} (ho : o.op = .pick c x y) (g : Good cx β σ a w) (h : evOp P Γ o σ K = some r) : Pu P cx K r o β σ a w := by
 simp only [evOp, ho] at h
 have hc := g.ev c
 split at h
 ·rename_i b he
  rw [he] at hc
  have hc := rep_v hc
  rcases br_some h with ⟨rfl, h⟩ | ⟨rfl, h⟩
  ·exact pu_mk (v := a.eval x) (fun w => by simp [execOp, ho, hc, asBool]) (And.intro h (g.ev x))
  ·exact pu_mk (v := a.eval y) (fun w => by simp [execOp, ho, hc, asBool]) (And.intro h (g.ev y))
 ·cases h

theorem pu_nilCheck {x : Operand} (ho : o.op = .nilCheck x) (g : Good cx β σ a w) (h : evOp P Γ o σ K = some r) : Pu P cx K r o β σ a w := by
 simp only [evOp, ho] at h
 have hx := g.ev x
 generalize hv : a.eval x = v at hx
 split at h <;> first | (cases h; done) | skip
 all_goals
  rename_i he
  rw [he] at hx
  have hx' := hx
  cases hx
  exact pu_mk (fun w => by simp [execOp, ho, hv]) (And.intro h hx')

theorem intOp_ok {op : BinOp} {k : IntKind} {x y : Int} {K : AV -> Option R} (hsh : op ≠ .shl ∧ op ≠ .shr) (h : intOp op k x y K = some r) :
  ∃ v, K (.v v) = some r ∧ ∀ (t : TypeId) (w : World), (binOp op t (.int k x) (.int k y)).run P w = .ok v w := by
 cases op <;> simp only [intOp] at h <;> first
  |(exact ⟨_, h, fun t w => by simp [binOp, Op.intArith, Op.intCmp, Op.intBits]⟩)
  |(rcases br_some h with ⟨h1, h2⟩ | ⟨h1, h2⟩
    ·cases h2
    ·exact ⟨_, h2, fun t w => by simp at h1; simp [binOp, Op.intDiv, h1]⟩)
  |(cases h; done)
  |(exact absurd rfl hsh.1)
  |(exact absurd rfl hsh.2)

theorem shiftOp_ok {op : BinOp} {k yk : IntKind} {x y : Int} {K : AV -> Option R} (hsh : op = .shl ∨ op = .shr) (h : shiftOp op k x y K = some r) :
  ∃ v, K (.v v) = some r ∧ ∀ (t : TypeId) (w : World), (binOp op t (.int k x) (.int yk y)).run P w = .ok v w := by
 simp only [shiftOp] at h
 rcases br_some h with ⟨h1, h2⟩ | ⟨h1, h2⟩
 ·cases h2
 ·simp only [decide_eq_false_iff_not] at h1
  rcases hsh with rfl | rfl
  ·exact ⟨_, h2, fun t w => by simp [binOp, Op.shift, h1]⟩
  ·exact ⟨_, h2, fun t w => by simp [binOp, Op.shift, h1]⟩

theorem guard_int (op : BinOp) (t : TypeId) (x y : Operand) (k : IntKind) (m : Int) (v : Value) (w : World) : (eqGuard op t x y (.int k m) v).run P w = .ok () w := by
 cases op <;> rfl
theorem guard_bool (op : BinOp) (t : TypeId) (x y : Operand) (m : Bool) (v : Value) (w : World) : (eqGuard op t x y (.bool m) v).run P w = .ok () w := by
 cases op <;> rfl
theorem guard_string (op : BinOp) (t : TypeId) (x y : Operand) (m : ByteArray) (v : Value) (w : World) : (eqGuard op t x y (.string m) v).run P w = .ok () w := by
 cases op <;> rfl
theorem guard_pointer (op : BinOp) (t : TypeId) (x y : Operand) (m : Option Addr) (v : Value) (w : World) : (eqGuard op t x y (.pointer m) v).run P w = .ok () w := by
 cases op <;> rfl


theorem eqIn_ptr (d : Nat) {t e : TypeId} (p : Option Addr) (ht : P.underlying t = some (.pointer e)) (w : World) : (Op.equalIn (d + 1) t (.pointer p) (.pointer none)).run P w = .ok p.isNone w := by
 cases p <;> simp [Op.equalIn, run_underlying ht]
theorem eqIn_ifc (d : Nat) {t : TypeId} {ms : Array (String × TypeId)} (u : TypeId) (z : Value) (ht : P.underlying t = some (.interface ms)) (w : World) : (Op.equalIn (d + 1) t (.iface u z) .nilIface).run P w = .ok false w := by
 simp [Op.equalIn, run_underlying ht]
theorem eqIn_nil (d : Nat) {t : TypeId} {ms : Array (String × TypeId)} (ht : P.underlying t = some (.interface ms)) (w : World) : (Op.equalIn (d + 1) t .nilIface .nilIface).run P w = .ok true w := by
 simp [Op.equalIn, run_underlying ht]
theorem eql_of {t : TypeId} {x y : Value} {b : Bool} (w : World) (h : (Op.equal t x y).run P w = .ok b w) (hx : (∃ p, x = .pointer p ∧ ∃ q, y = .pointer q) ∨ (∃ u z, x = .iface u z) ∨ x = .nilIface) :
  (binOp .eql t x y).run P w = .ok (.bool b) w ∧ (binOp .neq t x y).run P w = .ok (.bool (!b)) w := by
 rcases hx with ⟨p, rfl, q, rfl⟩ | ⟨u, z, rfl⟩ | rfl
 ·constructor <;> simp [binOp, h]
 ·constructor <;> simp [binOp, h]
 ·constructor <;> simp [binOp, h]

theorem eqIn_sl (d : Nat) {t e : TypeId} (p : Option Addr) (n c : Nat) (ht : P.underlying t = some (.slice e)) (w : World) : (Op.equalIn (d + 1) t (.slice p n c) (.slice none 0 0)).run P w = .ok p.isNone w := by
 cases p <;> simp [Op.equalIn, run_underlying ht]
theorem eql_sl {t : TypeId} {p : Option Addr} {n c : Nat} {b : Bool} (w : World) (h : (Op.equal t (.slice p n c) (.slice none 0 0)).run P w = .ok b w) :
  (binOp .eql t (.slice p n c) (.slice none 0 0)).run P w = .ok (.bool b) w ∧ (binOp .neq t (.slice p n c) (.slice none 0 0)).run P w = .ok (.bool (!b)) w := by
 constructor <;> simp [binOp, h]

theorem pu_binOp {op : BinOp} {t u : TypeId} {x y : Operand} (ho : o.op = .binOp op t x y u) (g : Good cx β σ a w) (h : evOp P Γ o σ K = some r) : Pu P cx K r o β σ a w := by
 have fin : ∀ {v : Value}, (∀ w, (eqGuard op t x y (a.eval x) (a.eval y)).run P w = .ok () w) -> (∀ w, (binOp op t (a.eval x) (a.eval y)).run P w = .ok v w) -> K (.v v) σ = some r -> Pu P cx K r o β σ a w :=
  fun hg hr hK => pu_mk (fun w => by simp [execOp, ho, hg w, hr w]) (And.intro hK (.v _))
 have hx := g.ev x
 have hy := g.ev y
 generalize hv : a.eval x = v at hx
 generalize hu : a.eval y = u at hy
 simp only [evOp, ho] at h
 unfold binAV at h
 split at h
 ·rename_i k m k' n hex hey
  rw [hex] at hx
  rw [hey] at hy
  have hx := rep_v hx
  have hy := rep_v hy
  subst hx hy
  have main : (∃ v, K (.v v) σ = some r ∧ ∀ w, (binOp op t (.int k m) (.int k' n)).run P w = .ok v w) := by
   split at h
   ·obtain ⟨v, h1, h2⟩ := shiftOp_ok (yk := k') (.inl rfl) h
    exact ⟨v, h1, h2 t⟩
   ·obtain ⟨v, h1, h2⟩ := shiftOp_ok (yk := k') (.inr rfl) h
    exact ⟨v, h1, h2 t⟩
   ·split at h
    ·rename_i hk
     subst hk
     obtain ⟨v, h1, h2⟩ := intOp_ok ⟨by assumption, by assumption⟩ h
     exact ⟨v, h1, h2 t⟩
    ·cases h
  obtain ⟨v, h1, h2⟩ := main
  refine fin (v := v) ?_ ?_ h1
  ·rw [hv]
   exact guard_int op t x y k m _
  ·rw [hv, hu]
   exact h2
 ·have agg : ∀ {b : Bool} {x' y' : AV}, eqAgg P t x' y' = some b -> (op = .eql ∨ op = .neq) -> ∀ w, (∃ fs, P.underlying t = some (.struct fs)) -> σ.ev x = x' -> σ.ev y = y' -> (eqGuard op t x y (a.eval x) (a.eval y)).run P w = .ok () w ∧
    (binOp op t (a.eval x) (a.eval y)).run P w = .ok (.bool (if op = .eql then b else !b)) w := by
   intro b x' y' hb hop w hst0 hex hey
   obtain ⟨fs0, hst0⟩ := hst0
   unfold eqAgg at hb
   split at hb
   ·rename_i ty hty
    split at hb
    ·rename_i p q hp hq
     obtain rfl := Option.some.inj hb
     rw [hex] at hx; rw [hey] at hy
     have hvv := flatOf_val hp hx
     have huu := flatOf_val hq hy
     rw [hv, hu, hvv, huu]
     have he := equal_val hty w p q
     rcases cmpT_cases hty with ⟨h1, h2⟩ | ⟨fs, hut, ht, hp, hpr, hst, hg⟩
     ·unfold plainT at h1
      rw [hst0] at h1
      cases h1
     ·rw [val_pr hpr, val_pr hpr] at he ⊢
      refine ⟨run_eqGuard_agg w op t x y _ _ hg, ?_⟩
      rcases hop with rfl | rfl
      ·simp only [binOp]
       simp [he]
      ·simp only [binOp]
       simp [he]
    ·cases hb
   ·cases hb
  have eqcase : ∀ b, eqAV P t (isConstO x || isConstO y) (σ.ev x) (σ.ev y) = some b -> (op = .eql ∨ op = .neq) -> ∀ w, (eqGuard op t x y (a.eval x) (a.eval y)).run P w = .ok () w ∧
    (binOp op t (a.eval x) (a.eval y)).run P w = .ok (.bool (if op = .eql then b else !b)) w := by
   intro b hb hop w
   unfold eqAV at hb
   split at hb
   ·rename_i p q ht hex hey
    rw [hex] at hx; rw [hey] at hy
    have hx := rep_v hx; have hy := rep_v hy
    subst hx hy
    rw [hv, hu]
    refine ⟨guard_bool op t x y p _ w, ?_⟩
    obtain rfl := Option.some.inj hb
    rcases hop with rfl | rfl <;> simp [binOp, run_equal_bool w t p q ht]
   ·rename_i p q hex hey
    rw [hex] at hx; rw [hey] at hy
    have hx := rep_v hx; have hy := rep_v hy
    subst hx hy
    rw [hv, hu]
    refine ⟨guard_string op t x y p _ w, ?_⟩
    obtain rfl := Option.some.inj hb
    rcases hop with rfl | rfl <;> simp [binOp, Op.stringOp]
   ·rename_i e p q ht hex hey
    rw [hex] at hx; rw [hey] at hy
    have hx := rep_v hx; have hy := rep_v hy
    subst hx hy
    rw [hv, hu]
    refine ⟨by cases op <;> rfl, ?_⟩
    obtain rfl := Option.some.inj hb
    have E := eql_sl w (eqIn_sl (P := P) 9999 none p q ht w)
    rcases hop with rfl | rfl
    ·exact E.1
    ·exact E.2
   ·rename_i e ad p q ht hex hey
    rw [hex] at hx; rw [hey] at hy
    have hx := rep_v hx; have hy := rep_v hy
    subst hx hy
    rw [hv, hu]
    refine ⟨by cases op <;> rfl, ?_⟩
    obtain rfl := Option.some.inj hb
    have E := eql_sl w (eqIn_sl (P := P) 9999 (some ad) p q ht w)
    rcases hop with rfl | rfl
    ·exact E.1
    ·exact E.2
   ·rename_i e s ht hex hey
    rw [hex] at hx; rw [hey] at hy
    have hy := rep_v hy
    subst hy
    split at hb
    ·cases hb
    ·rename_i x0 xs0 hxs
     obtain rfl := Option.some.inj hb
     cases hx with
     |rd _ A c hc hrow =>
      obtain ⟨ad, rfl, _, _⟩ := hrow (by rw [hxs]; exact Nat.succ_pos _)
      rw [hv, hu]
      refine ⟨by cases op <;> rfl, ?_⟩
      have E := eql_sl w (eqIn_sl (P := P) 9999 (some ad) s.xs.length c ht w)
      rcases hop with rfl | rfl
      ·exact E.1
      ·exact E.2
   ·rename_i e ht hex hey
    rw [hex] at hx; rw [hey] at hy
    have hx := rep_v hx; have hy := rep_v hy
    subst hx hy
    rw [hv, hu]
    refine ⟨guard_pointer op t x y none _ w, ?_⟩
    obtain rfl := Option.some.inj hb
    have E := eql_of w (eqIn_ptr (P := P) 9999 none ht w) (.inl ⟨_, rfl, _, rfl⟩)
    rcases hop with rfl | rfl
    ·exact E.1
    ·exact E.2
   ·rename_i e i j ht hex hey
    rw [hex] at hx; rw [hey] at hy
    have hy := rep_v hy
    subst hy
    cases hx with
    |ptr _ _ gg hb' =>
     rw [hv, hu]
     refine ⟨guard_pointer op t x y _ _ w, ?_⟩
     obtain rfl := Option.some.inj hb
     have E := eql_of w (eqIn_ptr (P := P) 9999 (some ⟨gg, j, none⟩) ht w) (.inl ⟨_, rfl, _, rfl⟩)
     rcases hop with rfl | rfl
     ·exact E.1
     ·exact E.2
   ·rename_i fs p q ht hex hey
    exact agg hb hop w ⟨_, ht⟩ hex hey
   ·rename_i fs p q ht hex hey
    exact agg hb hop w ⟨_, ht⟩ hex hey
   ·rename_i fs p q ht hex hey
    exact agg hb hop w ⟨_, ht⟩ hex hey
   ·rename_i ms u' z ht hex hey
    rw [hex] at hx; rw [hey] at hy
    have hy := rep_v hy
    subst hy
    cases hx with
    |ifc _ _ y' hz =>
     rw [hv, hu]
     obtain rfl := Option.some.inj hb
     have E := eql_of w (eqIn_ifc (P := P) 9999 u' y' ht w) (.inr (.inl ⟨_, _, rfl⟩))
     rcases hop with rfl | rfl
     ·exact ⟨rfl, E.1⟩
     ·exact ⟨rfl, E.2⟩
   ·rename_i ms ht hex hey
    rw [hex] at hx; rw [hey] at hy
    have hx := rep_v hx; have hy := rep_v hy
    subst hx hy
    rw [hv, hu]
    split at hb
    ·rename_i hc
     obtain rfl := Option.some.inj hb
     have hg : (eqGuard op t x y .nilIface .nilIface).run P w = .ok () w := by
      rcases hop with rfl | rfl
      ·cases x <;> cases y <;> first | rfl | (simp [isConstO] at hc)
      ·cases x <;> cases y <;> first | rfl | (simp [isConstO] at hc)
     refine ⟨hg, ?_⟩
     have E := eql_of w (eqIn_nil (P := P) 9999 ht w) (.inr (.inr rfl))
     rcases hop with rfl | rfl
     ·exact E.1
     ·exact E.2
    ·cases hb
   ·cases hb
  split at h
  ·split at h
   ·rename_i b hb
    have h12 := eqcase b hb (.inl rfl)
    exact fin (fun w => (h12 w).1) (fun w => (h12 w).2) (by simpa using h)
   ·cases h
  ·split at h
   ·rename_i b hb
    have h12 := eqcase b hb (.inr rfl)
    exact fin (fun w => (h12 w).1) (fun w => (h12 w).2) (by simpa using h)
   ·cases h
  ·split at h
   ·rename_i p q hex hey
    rw [hex] at hx; rw [hey] at hy
    have hx := rep_v hx; have hy := rep_v hy
    subst hx hy
    rcases br_some h with ⟨h1, h2⟩ | ⟨h1, h2⟩
    ·have h1 : p.size + q.size ≤ 9223372036854775807 := Nat.le_of_ble_eq_true h1
     refine fin (v := .string (p ++ q)) ?_ ?_ h2
     ·rw [hv]
      exact guard_string _ t x y p _
     ·intro w
      rw [hv, hu]
      have : ¬ (((p.size + q.size : Nat) : Int) > IntKind.i64.max) := by
       have e : IntKind.i64.max = 9223372036854775807 := rfl
       rw [e]
       omega
      simp only [binOp, Op.stringOp]
      rw [if_neg this]
      rfl
    ·cases h2
   ·cases h
  ·cases h


theorem pu_unOp {op : UnOp} {t : TypeId} {x : Operand} (ho : o.op = .unOp op t x) (g : Good cx β σ a w) (h : evOp P Γ o σ K = some r) : Pu P cx K r o β σ a w := by
 have hx := g.ev x
 generalize hv : a.eval x = v at hx
 simp only [evOp, ho] at h
 split at h
 ·rename_i b he
  rw [he] at hx
  have hx := rep_v hx
  subst hx
  exact pu_mk (v := .bool (!b)) (fun w => by simp [execOp, ho, hv, Op.unary]) (And.intro h (.v _))
 ·rename_i k n he
  rw [he] at hx
  have hx := rep_v hx
  subst hx
  exact pu_mk (v := .int k (k.wrap (0 - n))) (fun w => by simp [execOp, ho, hv, Op.unary, Op.intArith]) (And.intro h (.v _))
 ·cases h

theorem pu_convert {t d : TypeId} {x : Operand} (ho : o.op = .convert t d x) (g : Good cx β σ a w) (hns : ∃ k n, σ.ev x = .v (.int k n)) (h : evOp P Γ o σ K = some r) : Pu P cx K r o β σ a w := by
 obtain ⟨k, n, hi⟩ := hns
 have hx := g.ev x
 generalize hv : a.eval x = v at hx
 simp only [evOp, ho] at h
 split at h
 ·rename_i s k k' n hs hd he
  rw [he] at hx
  have hx := rep_v hx
  subst hx
  exact pu_mk (v := .int k (k.wrap n)) (fun w => by simp [execOp, ho, hv, convert, run_underlying hs, run_underlying hd, Conv.intToInt]) (And.intro h (.v _))
 ·rename_i kk k' n hs hd he
  rw [he] at hx
  have hx := rep_v hx
  subst hx
  exact pu_mk (v := .string (Utf8.encode n)) (fun w => by simp [execOp, ho, hv, convert, run_underlying hs, run_underlying hd, Conv.intToString]) (And.intro h (.v _))
 ·rename_i he; rw [hi] at he; cases he
 ·rename_i he; rw [hi] at he; cases he
 ·rename_i he; rw [hi] at he; cases he
 ·rw [hi] at h
  split at h
  ·split at h
   ·rename_i hn
    cases hn
   ·cases h
  ·cases h
 ·cases h

theorem run_fieldPlace {f : Field} {n : Nat} (h : sizeT P f.type = some n) (hn : n ≠ 0) (ad : Addr) (w : World) : (fieldPlace ad f).run P w = .ok (ad.add f.offset) w := by
 simp [fieldPlace, run_sizeT h, hn]

theorem fieldT_fs {s : TypeId} {n : Nat} {f : Field} (h : fieldT P s n = some f) : ∃ fs, P.underlying s = some (.struct fs) ∧ fs[n]? = some f := by
 unfold fieldT at h
 split at h
 ·rename_i fs hu
  exact ⟨fs, hu, h⟩
 ·cases h

theorem pu_fieldAddr {s : TypeId} {x : Operand} {n : Nat} (ho : o.op = .fieldAddr s x n) (g : Good cx β σ a w) (h : evOp P Γ o σ K = some r) : Pu P cx K r o β σ a w := by
 have hx := g.ev x
 generalize hv : a.eval x = v at hx
 simp only [evOp, ho] at h
 split at h
 ·rename_i f hf
  obtain ⟨fs, hu, hfs⟩ := fieldT_fs hf
  split at h
  ·cases h
  ·rename_i h0
   obtain ⟨m, hm⟩ : ∃ m, sizeT P f.type = some m := by
    cases hm : sizeT P f.type with
    |none => rw [hm] at h0; exact absurd rfl h0
    |some m => exact ⟨m, rfl⟩
   have hm0 : m ≠ 0 := fun e => h0 (by rw [hm, e]; rfl)
   have run : ∀ ad, v = .pointer (some ad) -> ∀ w, (execOp a.eval o).run P w = .ok (.value (.pointer (some (ad.add f.offset)))) w := fun ad e w => by
    subst e
    have := run_fieldPlace hm hm0 ad w
    simp [execOp, ho, hv, Instr.fieldAt, run_underlying hu, hfs, Instr.sureAddr, this]
   split at h
   ·rename_i i j he
    rw [he] at hx
    cases hx with
    |ptr _ _ gg hb => exact pu_mk (run _ rfl) (And.intro h (by rw [add_at]; exact .ptr _ _ _ hb))
   ·rename_i q j k he
    rw [he] at hx
    cases hx with
    |pel _ _ _ ad hj hr => exact pu_mk (run _ rfl) (And.intro h (by rw [add_add, Nat.add_assoc]; exact .pel _ _ _ _ hj hr))
   ·rename_i i z j k he
    rw [he] at hx
    cases hx with
    |poe _ _ _ _ gg n c hj hb => exact pu_mk (run _ rfl) (And.intro h (by rw [add_at, Nat.add_assoc]; exact .poe _ _ _ _ _ _ _ hj hb))
   ·rename_i i j z l k he
    rw [he] at hx
    cases hx with
    |pin _ _ _ _ _ gg n c y vs hb hj hk => exact pu_mk (run _ rfl) (And.intro h (by rw [add_at, Nat.add_assoc]; exact .pin _ _ _ _ _ _ _ _ _ _ hb hj hk))
   ·rename_i i z j k he
    rw [he] at hx
    cases hx with
    |pfs _ _ _ _ gg n c vs hb hj => exact pu_mk (run _ rfl) (And.intro h (by rw [add_at, Nat.add_assoc]; exact .pfs _ _ _ _ _ _ _ _ hb hj))
   ·cases h
 ·cases h

theorem part_ok {ok : Bool -> Nat -> Prop} {t : TypeId} {l : List AV} {vs : List Value} {n : Nat} (hl : RepL w ok β l vs) {K : AV -> Option R} {r : R} (h : loadC P t (l.drop n) K = some r) :
  ∃ y v, K y = some r ∧ (∀ w, (part t vs.toArray n).run P w = .ok v w) ∧ RepV w ok β y v := by
 unfold loadC at h
 split at h
 ·rename_i m ha hm
  split at h
  ·rename_i hle
   rw [List.length_drop] at hle
   refine ⟨_, .agg ((vs.drop n).take m).toArray, h, fun w => ?_, .agg _ _ (by simp [hl.1]) fun i x y hx hy => ?_⟩
   ·have e : vs.toArray.extract n (n + m) = ((vs.drop n).take m).toArray := by
     rw [List.extract_toArray, List.extract_eq_take_drop]
     congr 2
     omega
    simp [part, Sem.run_bind, run_isAgg ha w, run_sizeT hm w, e]
   ·exact (hl.drop n).2 i x y (by
     rw [List.getElem?_take] at hx
     split at hx
     ·exact hx
     ·cases hx) (by
     rw [List.getElem?_take] at hy
     split at hy
     ·exact hy
     ·cases hy)
  ·cases h
 ·rename_i ha
  split at h
  ·rename_i c cs he
   have hd := hl.drop n
   rw [he] at hd
   cases hvs : vs.drop n with
   |nil => rw [hvs] at hd; simp [RepL] at hd
   |cons v vs' =>
    rw [hvs] at hd
    refine ⟨c, v, h, fun w => ?_, hd.2 0 c v rfl rfl⟩
    have hv : vs[n]? = some v := by
     have := congrArg (fun l => l[0]?) hvs
     simpa using this
    simp [part, Sem.run_bind, run_isAgg ha w, hv]
  ·cases h
 ·cases h

theorem pu_field {s : TypeId} {x : Operand} {n : Nat} (ho : o.op = .field s x n) (g : Good cx β σ a w) (h : evOp P Γ o σ K = some r) : Pu P cx K r o β σ a w := by
 have hx := g.ev x
 generalize hv : a.eval x = v at hx
 simp only [evOp, ho] at h
 split at h
 ·rename_i f hf
  obtain ⟨fs, hu, hfs⟩ := fieldT_fs hf
  split at h
  ·rename_i cs he
   rw [he] at hx
   cases hx with
   |agg _ vs hl hc =>
    obtain ⟨y, v, h1, h2, h3⟩ := part_ok (P := P) ⟨hl, hc⟩ h
    exact pu_mk (v := v) (fun w => by simp [execOp, ho, hv, Instr.field, run_underlying hu, hfs, asAgg, h2 w]) (And.intro h1 h3)
  ·cases h
 ·cases h

theorem pu_extract {x : Operand} {n : Nat} (ho : o.op = .extract x n) (g : Good cx β σ a w) (h : evOp P Γ o σ K = some r) : Pu P cx K r o β σ a w := by
 have hx := g.ev x
 generalize hv : a.eval x = v at hx
 simp only [evOp, ho] at h
 split at h
 ·rename_i l he
  rw [he] at hx
  cases hx with
  |tup _ vs hl hc =>
   split at h
   ·rename_i y hy
    have hlt : n < vs.length := by rw [← hl]; exact get_lt hy
    exact pu_mk (v := vs[n]) (fun w => by simp [execOp, ho, hv, Instr.extract, hlt]) (And.intro h (hc n y _ hy (List.getElem?_eq_getElem hlt)))
   ·cases h
 ·cases h

theorem pu_makeInterface {t : TypeId} {x : Operand} (ho : o.op = .makeInterface t x) (g : Good cx β σ a w) (h : evOp P Γ o σ K = some r) : Pu P cx K r o β σ a w := by
 simp only [evOp, ho] at h
 cases hu : P.underlying t with
 |none => rw [hu] at h; cases h
 |some d =>
  rw [hu] at h
  cases d <;> first
   |(cases h; done)
   |exact pu_mk (v := .iface t (a.eval x)) (fun w => by simp [execOp, ho, Instr.makeInterface, run_underlying hu]) (And.intro h (.ifc _ _ _ (g.ev x)))

theorem zeroT_run {t : TypeId} {z : Value} (h : zeroT P t = some z) (w : World) : (zeroValue t).run P w = .ok z w := by
 unfold zeroT at h
 split at h
 ·rename_i i hi
  simp [zeroValue, typeInfo, hi, h]
 ·cases h

theorem run_assert_hit {u xt : TypeId} {v : Value} {ok : Bool} (h : isIfaceT P u = some false) (w : World) : (Instr.typeAssert (.iface u v) xt u ok).run P w = .ok (if ok then .tuple #[v, .bool true] else v) w := by
 unfold isIfaceT at h
 cases hu : P.underlying u with
 |none => rw [hu] at h; cases h
 |some d =>
  rw [hu] at h
  cases d <;> first
   |(cases h; done)
   |(cases ok <;> simp [Instr.typeAssert, run_underlying hu])

theorem run_assert_miss {u xt t : TypeId} {v z : Value} (h : isIfaceT P u = some false) (hne : t ≠ u) (hz : zeroT P u = some z) (w : World) : (Instr.typeAssert (.iface t v) xt u true).run P w = .ok (.tuple #[z, .bool false]) w := by
 unfold isIfaceT at h
 cases hu : P.underlying u with
 |none => rw [hu] at h; cases h
 |some d =>
  rw [hu] at h
  cases d <;> first
   |(cases h; done)
   |simp [Instr.typeAssert, run_underlying hu, hne, zeroT_run hz]

theorem run_assert_nil {u xt : TypeId} {z : Value} (h : isIfaceT P u = some false) (hz : zeroT P u = some z) (w : World) : (Instr.typeAssert .nilIface xt u true).run P w = .ok (.tuple #[z, .bool false]) w := by
 unfold isIfaceT at h
 cases hu : P.underlying u with
 |none => rw [hu] at h; cases h
 |some d =>
  rw [hu] at h
  cases d <;> first
   |(cases h; done)
   |simp [Instr.typeAssert, run_underlying hu, zeroT_run hz]

theorem rep_pair {w : World} {ok : Bool -> Nat -> Prop} {β : List Value} {x y : AV} {u v : Value} (hx : RepV w ok β x u) (hy : RepV w ok β y v) : RepV w ok β (.tup [x, y]) (.tuple #[u, v]) := by
 refine .tup [x, y] [u, v] rfl fun i p q hp hq => ?_
 match i, hp, hq with
 |0, hp, hq => cases hp; cases hq; exact hx
 |1, hp, hq => cases hp; cases hq; exact hy
 |i + 2, hp, hq => simp at hp

theorem pu_typeAssert {x : Operand} {xt u : TypeId} {ok : Bool} (ho : o.op = .typeAssert x xt u ok) (g : Good cx β σ a w) (h : evOp P Γ o σ K = some r) : Pu P cx K r o β σ a w := by
 simp only [evOp, ho] at h
 have hx := g.ev x
 generalize hv : a.eval x = v at hx
 split at h
 ·rename_i t y hi he
  rw [he] at hx
  cases hx with
  |ifc _ _ z hz =>
   split at h
   ·rename_i htu
    subst htu
    cases ok with
    |true => exact pu_mk (v := .tuple #[z, .bool true]) (fun w => by simp [execOp, ho, hv, run_assert_hit hi]) (And.intro h (rep_pair hz (.v _)))
    |false => exact pu_mk (v := z) (fun w => by simp [execOp, ho, hv, run_assert_hit hi]) (And.intro h hz)
   ·rename_i hne
    split at h
    ·rename_i q hq
     exact pu_mk (v := .tuple #[q, .bool false]) (fun w => by simp [execOp, ho, hv, run_assert_miss hi hne hq]) (And.intro h (rep_pair (.v _) (.v _)))
    ·cases h
 ·rename_i hi he
  rw [he] at hx
  have hx := rep_v hx
  subst hx
  split at h
  ·rename_i q hq
   exact pu_mk (v := .tuple #[q, .bool false]) (fun w => by simp [execOp, ho, hv, run_assert_nil hi hq]) (And.intro h (rep_pair (.v _) (.v _)))
  ·cases h
 ·cases h

theorem pu_makeFunc {fn : Fn} {first cap : Array Operand} (ho : o.op = .makeFunc fn first cap) (g : Good cx β σ a w) (h : evOp P Γ o σ K = some r) : Pu P cx K r o β σ a w := by
 simp only [evOp, ho] at h
 split at h
 ·rename_i f
  split at h
  ·rename_i he
   have e : first = #[] := by
    rw [List.isEmpty_iff] at he
    exact Array.toList_inj.1 (by simpa using he)
   subst e
   refine pu_mk (v := .func (.func f) #[] (cap.toList.map a.eval).toArray) (fun w => by cases cap; simp [execOp, ho, Instr.makeFunc]) (And.intro h (.clo _ _ _ (by simp) fun i x y hx hy => ?_))
   rw [List.getElem?_map] at hx hy
   cases hc : cap.toList[i]? with
   |none => rw [hc] at hx; cases hx
   |some q =>
    rw [hc] at hx hy
    simp at hx hy
    subst hx hy
    exact g.ev q
  ·split at h
   ·rename_i he
    have e : cap = #[] := by
     rw [List.isEmpty_iff] at he
     exact Array.toList_inj.1 (by simpa using he)
    subst e
    refine pu_mk (v := .func (.func f) (first.toList.map a.eval).toArray #[]) (fun w => by cases first; simp [execOp, ho, Instr.makeFunc]) (And.intro h (.bnd _ _ _ (by simp) fun i x y hx hy => ?_))
    rw [List.getElem?_map] at hx hy
    cases hc : first.toList[i]? with
    |none => rw [hc] at hx; cases hx
    |some q =>
     rw [hc] at hx hy
     simp at hx hy
     subst hx hy
     exact g.ev q
   ·cases h
 ·cases h

theorem at_ok {i : Int} {n : Nat} {K : Nat -> Option R} (h : at_ i n K = some r) : 0 ≤ i ∧ i < (n : Int) ∧ K i.toNat = some r := by
 unfold at_ at h
 rcases br_some h with ⟨h1, h2⟩ | ⟨h1, h2⟩
 ·have := of_decide_eq_true h1
  exact ⟨this.1, this.2, h2⟩
 ·cases h2

theorem isInt_v {x : AV} {n : Int} (h : isInt x = some n) : ∃ k, x = .v (.int k n) := by
 unfold isInt at h
 split at h
 ·obtain rfl := Option.some.inj h
  exact ⟨_, rfl⟩
 ·cases h

theorem pu_index {t : TypeId} {x i : Operand} (ho : o.op = .index t x i) (g : Good cx β σ a w) (h : evOp P Γ o σ K = some r) : Pu P cx K r o β σ a w := by
 have hx := g.ev x
 have hi := g.ev i
 generalize hv : a.eval x = v at hx
 generalize hu : a.eval i = u at hi
 simp only [evOp, ho] at h
 split at h
 ·rename_i s n he hn
  rw [he] at hx
  have hx := rep_v hx
  subst hx
  obtain ⟨k, hk⟩ := isInt_v hn
  rw [hk] at hi
  have hi := rep_v hi
  subst hi
  split at h
  ·rename_i ht
   obtain ⟨h0, h1, h2⟩ := at_ok h
   have hlt : n.toNat < s.size := by omega
   refine pu_mk (v := .int .u8 ((s.data.toList.getD n.toNat 0).toNat : Int)) (fun w => ?_) (And.intro h2 (.v _))
   have e : s.data.toList.getD n.toNat 0 = s[n.toNat] := by
    have hlt' : n.toNat < s.data.toList.length := by simpa using hlt
    rw [List.getD_eq_getElem?_getD, List.getElem?_eq_getElem hlt']
    rfl
   rw [e]
   simp [execOp, ho, hv, hu, Instr.index, asIntOf, run_underlying ht, h0, hlt]
  ·cases h
 ·cases h

theorem pu_indexAddr {t : TypeId} {x i : Operand} (ho : o.op = .indexAddr t x i) (g : Good cx β σ a w) (h : evOp P Γ o σ K = some r) : Pu P cx K r o β σ a w := by
 have hx := g.ev x
 have hi := g.ev i
 generalize hv : a.eval x = v at hx
 generalize hu : a.eval i = u at hi
 simp only [evOp, ho] at h
 split at h
 ·rename_i ri n hr hn
  obtain ⟨ie, z, hut, hie, hsz, _⟩ := tyOf_row hr
  obtain ⟨k, hk⟩ := isInt_v hn
  rw [hk] at hi
  have hi := rep_v hi
  subst hi
  have run : ∀ ad len c, v = .slice (some ad) len c -> 0 ≤ n -> n < (len : Int) -> ∀ w, (execOp a.eval o).run P w = .ok (.value (.pointer (some (ad.add (n.toNat * ri.t.sz))))) w := fun ad len c e h0 h1 w => by
   subst e
   have hsz' : sizeT P ri.e = some ri.t.sz := by simp [sizeT, hie, hsz]
   simp [execOp, ho, hv, hu, Instr.indexAt, asIntOf, run_underlying hut, h0, h1, run_sizeT hsz']
  split at h
  ·rename_i s he
   rw [he] at hx
   split at h
   ·rename_i ht
    obtain ⟨h0, h1, h2⟩ := at_ok h
    cases hx with
    |rd _ A c hc hrow =>
     obtain ⟨ad, rfl, _, _⟩ := hrow (by omega)
     refine pu_mk (run ad _ _ rfl h0 h1) (And.intro h2 ?_)
     rw [← ht]
     exact .pel s n.toNat 0 ad (by omega) hrow
   ·cases h
  ·rename_i j he
   rw [he] at hx
   split at h
   ·rename_i s hob
    split at h
    ·rename_i ht
     obtain ⟨h0, h1, h2⟩ := at_ok h
     cases hx with
     |own _ _ hb =>
      obtain ⟨cells, hown, _⟩ := g.W.obj j _ _ hob hb
      rcases hown.2 with ⟨_, hn0⟩ | ⟨gg, cap, cur, rfl, _⟩
      ·omega
      ·refine pu_mk (run _ _ _ rfl h0 h1) (And.intro h2 ?_)
       rw [cell_at, ← ht]
       exact .poe j s.t.sz n.toNat 0 gg s.xs.length cap (by omega) hb
    ·cases h
   ·rename_i s hob
    split at h
    ·rename_i ht
     obtain ⟨h0, h1, h2⟩ := at_ok h
     cases hx with
     |own _ _ hb =>
      obtain ⟨A, c, rfl, hc, hrow⟩ := g.W.obj j _ _ hob hb
      obtain ⟨ad, rfl, _, _⟩ := hrow (by omega)
      refine pu_mk (run ad _ _ rfl h0 h1) (And.intro h2 ?_)
      rw [← ht]
      exact .pel s n.toNat 0 ad (by omega) hrow
    ·cases h
   ·cases h
  ·rename_i j z lo m he
   rw [he] at hx
   split at h
   ·rename_i s hob
    split at h
    ·rename_i htz
     obtain ⟨ht, hz⟩ := htz
     obtain ⟨h0, h1, h2⟩ := at_ok h
     cases hx with
     |view _ _ _ _ A0 L c0 A hb hn hL hA =>
      obtain ⟨cells, hown, _⟩ := g.W.obj j _ _ hob hb
      rcases hown.2 with ⟨he0, hn0⟩ | ⟨gg, cap, cur, he0, _, _, hcap, _⟩
      ·obtain ⟨_, rfl, rfl⟩ := Value.slice.inj he0
       omega
      ·obtain ⟨rfl, rfl, rfl⟩ := Value.slice.inj he0
       rcases hA with rfl | ⟨e1, e2⟩
       ·refine pu_mk (run _ _ _ rfl h0 h1) (And.intro h2 ?_)
        have e : (((⟨gg, 0, none⟩ : Addr).add (lo * z)).add (n.toNat * ri.t.sz)) = ⟨gg, (lo + n.toNat) * s.t.sz + 0, none⟩ := by
         rw [add_add, cell_at, ← ht, hz, Nat.add_mul]
         rfl
        rw [e]
        exact .poe j s.t.sz (lo + n.toNat) 0 gg s.xs.length _ (by omega) hb
       ·omega
    ·cases h
   ·rename_i s hob
    split at h
    ·rename_i htz
     obtain ⟨ht, hz⟩ := htz
     obtain ⟨h0, h1, h2⟩ := at_ok h
     cases hx with
     |view _ _ _ _ A0 L c0 A hb hn hL hA =>
      obtain ⟨A', c, he0, hc, hrow⟩ := g.W.obj j _ _ hob hb
      obtain ⟨rfl, rfl, rfl⟩ := Value.slice.inj he0
      rcases hA with rfl | ⟨e1, e2⟩
      ·have hrow2 := hrow.sub hn
       have hl := sub_len hn
       obtain ⟨ad, had, _, _⟩ := hrow2 (by
        show 0 < (s.sub lo m).xs.length
        rw [hl]
        omega)
       rw [hz] at hrow2
       rw [hz] at had
       rw [had] at hrow2
       refine pu_mk (run ad _ _ (by rw [had]) h0 h1) (And.intro h2 ?_)
       have e : n.toNat * ri.t.sz = n.toNat * (s.sub lo m).t.sz + 0 := by rw [← ht]; rfl
       rw [e]
       exact .pel (s.sub lo m) n.toNat 0 ad (by rw [hl]; omega) hrow2
      ·omega
    ·cases h
   ·cases h
  ·rename_i j he
   rw [he] at hx
   split at h
   ·rename_i s hob
    split at h
    ·rename_i htz
     obtain ⟨ht, hz⟩ := htz
     obtain ⟨h0, h1, h2⟩ := at_ok h
     cases hx with
     |nst _ _ vs hb =>
      obtain ⟨y', vs', e, hl, _, hoff, _⟩ := g.W.obj j _ _ hob hb
      have e := List.cons.inj (by simpa using e : v :: vs = y' :: vs')
      obtain ⟨rfl, rfl⟩ := e
      rcases hoff with ⟨_, hnil⟩ | ⟨gg, off, cap, cur, rfl, _⟩
      ·rw [hnil] at hl
       simp at hl
       omega
      ·rw [hl] at run hb
       refine pu_mk (run _ _ _ rfl h0 h1) (And.intro h2 ?_)
       have e : (⟨gg, off, none⟩ : Addr).add (n.toNat * ri.t.sz) = ⟨gg, off + n.toNat, none⟩ := by
        rw [cell_off, ← ht, hz, Nat.mul_one]
       rw [e]
       exact .pns j n.toNat gg off s.xs.length cap vs hb (by omega)
    ·cases h
   ·rename_i s nn hob
    split at h
    ·rename_i ht
     obtain ⟨h0, h1, h2⟩ := at_ok h
     cases hx with
     |nst _ _ vs hb =>
      obtain ⟨y', vs', cells, e, hown, _⟩ := g.W.obj j _ _ hob hb
      have e := List.cons.inj (by simpa using e : v :: vs = y' :: vs')
      obtain ⟨rfl, rfl⟩ := e
      rcases hown.2 with ⟨_, hn0⟩ | ⟨gg, cap, cur, rfl, _⟩
      ·omega
      ·refine pu_mk (run _ _ _ rfl h0 h1) (And.intro h2 ?_)
       rw [cell_at, ← ht]
       exact .pfs j s.t.sz n.toNat 0 gg s.xs.length cap vs hb (by omega)
    ·cases h
   ·rename_i s hob
    split at h
    ·rename_i ht
     obtain ⟨h0, h1, h2⟩ := at_ok h
     cases hx with
     |nst _ _ vs hb =>
      obtain ⟨y', vs', A, c, e, hy, hc, hrow⟩ := g.W.obj j _ _ hob hb
      have e := List.cons.inj (by simpa using e : v :: vs = y' :: vs')
      obtain ⟨rfl, rfl⟩ := e
      obtain ⟨ad, rfl, _, _⟩ := hrow (by omega)
      refine pu_mk (run ad _ _ hy h0 h1) (And.intro h2 ?_)
      rw [← ht]
      exact .pel s n.toNat 0 ad (by omega) hrow
    ·cases h
   ·cases h
  ·rename_i j j2 he
   rw [he] at hx
   split at h
   ·rename_i s hs
    split at h
    ·rename_i ht
     obtain ⟨h0, h1, h2⟩ := at_ok h
     obtain ⟨q, hob, hq⟩ := innAt_some hs
     have hx' := hx
     cases hx with
     |inn _ _ _ y vs hb hj =>
      obtain ⟨⟨cells, hown, _⟩, _⟩ := inn_own g.W hob hq hx'
      rcases hown.2 with ⟨_, hn0⟩ | ⟨gg, cap, cur, rfl, _⟩
      ·omega
      ·refine pu_mk (run _ _ _ rfl h0 h1) (And.intro h2 ?_)
       rw [cell_at, ← ht]
       exact .pin j j2 s.t.sz n.toNat 0 gg s.xs.length cap y vs hb hj (by omega)
    ·cases h
   ·cases h
  ·cases h
 ·rename_i n hr hn
  obtain ⟨q, hq⟩ := isInt_v hn
  rw [hq] at hi
  have hi := rep_v hi
  subst hi
  split at h
  ·rename_i k m b j ha he
   rw [he] at hx
   obtain ⟨h0, h1, h2⟩ := at_ok h
   cases hx with
   |ptr _ _ gg hb =>
    unfold arrI at ha
    split at ha
    ·rename_i m' e hut
     split at ha
     ·rename_i hue hsz
      obtain ⟨rfl, rfl⟩ := Prod.mk.inj (Option.some.inj ha)
      refine pu_mk (v := .pointer (some ⟨gg, j + n.toNat, none⟩)) (fun w => ?_) (And.intro h2 (.pbk b j _ _ n.toNat gg hb (by omega)))
      simp [execOp, ho, hv, hu, Instr.indexAt, asIntOf, run_underlying hut, h0, h1, run_sizeT hsz, Instr.sureAddr, add_at]
     ·cases ha
    ·cases ha
  ·cases h
 ·cases h

/-! ### Parts of slices -/

theorem isNil_eq {x : AV} (h : isNil x = true) : x = .v (.slice none 0 0) := by
 unfold isNil at h
 split at h
 ·rfl
 ·cases h

theorem isIntO_none {x : Option AV} (h : isIntO x = some none) : x = none := by
 unfold isIntO at h
 split at h
 ·rfl
 ·split at h <;> cases h

theorem isIntO_some {x : Option AV} {n : Int} (h : isIntO x = some (some n)) : ∃ k, x = some (.v (.int k n)) := by
 unfold isIntO at h
 split at h
 ·cases h
 ·split at h
  ·obtain rfl := Option.some.inj (Option.some.inj h)
   exact ⟨_, rfl⟩
  ·cases h

theorem cut_ok {l h : Option Int} {n m : Nat} {K : Nat -> Nat -> Option R} (hnm : n ≤ m) (e : cut_ l h n m K = some r) : ∃ i j : Nat, K i j = some r ∧ i ≤ j ∧ j ≤ m ∧ (l = none -> i = 0) ∧ (∀ x, l = some x -> x = (i : Int)) ∧ (h = none -> j = n) ∧ (∀ x, h = some x -> x = (j : Int)) := by
 unfold cut_ at e
 split at e
 ·exact ⟨0, n, e, Nat.zero_le _, hnm, fun _ => rfl, fun x hx => (by cases hx), fun _ => rfl, fun x hx => (by cases hx)⟩
 ·rename_i l
  rcases br_some e with ⟨h1, h2⟩ | ⟨_, h2⟩
  ·obtain ⟨k1, k2⟩ := of_decide_eq_true h1
   exact ⟨l.toNat, n, h2, by omega, hnm, fun hx => (by cases hx), fun x hx => (by obtain rfl := Option.some.inj hx; omega), fun _ => rfl, fun x hx => (by cases hx)⟩
  ·cases h2
 ·rename_i h
  rcases br_some e with ⟨h1, h2⟩ | ⟨_, h2⟩
  ·obtain ⟨k1, k2⟩ := of_decide_eq_true h1
   exact ⟨0, h.toNat, h2, by omega, by omega, fun _ => rfl, fun x hx => (by cases hx), fun hx => (by cases hx), fun x hx => (by obtain rfl := Option.some.inj hx; omega)⟩
  ·cases h2
 ·rename_i l h
  rcases br_some e with ⟨h1, h2⟩ | ⟨_, h2⟩
  ·obtain ⟨k1, k2, k3⟩ := of_decide_eq_true h1
   exact ⟨l.toNat, h.toNat, h2, by omega, by omega, fun hx => (by cases hx), fun x hx => (by obtain rfl := Option.some.inj hx; omega), fun hx => (by cases hx), fun x hx => (by obtain rfl := Option.some.inj hx; omega)⟩
  ·cases h2

theorem run_bound (k : IntKind) (i y : Nat) (c : BoundsCode) (h : i ≤ y) (w : World) : (Instr.sliceBound (.int k (i : Int)) y c).run P w = .ok i w := by
 have := run_sliceBound (P := P) w k (i : Int) y c (by omega) (by omega)
 simpa using this

theorem run_bounds {b : Bool} {n m i j : Nat} {l h : Option Value} (hij : i ≤ j) (hjm : j ≤ m) (h1 : l = none -> i = 0) (h2 : ∀ x, l = some x -> ∃ k, x = .int k (i : Int)) (h3 : h = none -> j = n) (h4 : ∀ x, h = some x -> ∃ k, x = .int k (j : Int)) (w : World) :
  (Instr.sliceBounds b n m l h none).run P w = .ok (i, j, m) w := by
 unfold Instr.sliceBounds
 cases l with
 |none =>
  obtain rfl := h1 rfl
  cases h with
  |none =>
   obtain rfl := h3 rfl
   simp
  |some x =>
   obtain ⟨k, rfl⟩ := h4 x rfl
   simp [run_bound (P := P) k j m _ hjm]
 |some y =>
  obtain ⟨k', rfl⟩ := h2 y rfl
  cases h with
  |none =>
   obtain rfl := h3 rfl
   simp [run_bound (P := P) k' i j _ hij]
  |some x =>
   obtain ⟨k, rfl⟩ := h4 x rfl
   simp [run_bound (P := P) k j m _ hjm, run_bound (P := P) k' i j _ hij]

theorem pu_slice {t : TypeId} {x : Operand} {lo hi mx : Option Operand} (ho : o.op = .slice t x lo hi mx) (g : Good cx β σ a w) (hnn : ∀ i, σ.ev x ≠ .nst i) (h : evOp P Γ o σ K = some r) : Pu P cx K r o β σ a w := by
 have hx := g.ev x
 generalize hv : a.eval x = v at hx
 simp only [evOp, ho] at h
 split at h
 ·cases h
 split at h
 ·rename_i l h' hl hh
  -- the bounds as they are told
  have hlo : ∀ i : Nat, (l = none -> i = 0) -> (∀ y, l = some y -> y = (i : Int)) -> (lo.map a.eval = none -> i = 0) ∧ ∀ y, lo.map a.eval = some y -> ∃ k, y = .int k (i : Int) := by
   intro i k1 k2
   cases lo with
   |none => exact ⟨fun _ => k1 (by simpa [isIntO] using hl.symm), fun y hy => by simp at hy⟩
   |some q =>
    refine ⟨fun h => by simp at h, fun y hy => ?_⟩
    cases l with
    |none =>
     have := isIntO_none hl
     simp at this
    |some z =>
     obtain ⟨k, hk⟩ := isIntO_some hl
     have hq := g.ev q
     simp at hk hy
     rw [hk] at hq
     rw [rep_v hq] at hy
     rw [← k2 z rfl]
     exact ⟨k, hy.symm⟩
  have hhi : ∀ (j n : Nat), (h' = none -> j = n) -> (∀ y, h' = some y -> y = (j : Int)) -> (hi.map a.eval = none -> j = n) ∧ ∀ y, hi.map a.eval = some y -> ∃ k, y = .int k (j : Int) := by
   intro j n k1 k2
   cases hi with
   |none => exact ⟨fun _ => k1 (by simpa [isIntO] using hh.symm), fun y hy => by simp at hy⟩
   |some q =>
    refine ⟨fun h => by simp at h, fun y hy => ?_⟩
    cases h' with
    |none =>
     have := isIntO_none hh
     simp at this
    |some z =>
     obtain ⟨k, hk⟩ := isIntO_some hh
     have hq := g.ev q
     simp at hk hy
     rw [hk] at hq
     rw [rep_v hq] at hy
     rw [← k2 z rfl]
     exact ⟨k, hy.symm⟩
  split at h
  ·rename_i s hu he
   rw [he] at hx
   have hx := rep_v hx
   subst hx
   obtain ⟨i, j, hK, hij, hjm, k1, k2, k3, k4⟩ := cut_ok (Nat.le_refl _) h
   obtain ⟨m1, m2⟩ := hlo i k1 k2
   obtain ⟨m3, m4⟩ := hhi j s.size k3 k4
   refine pu_mk (v := .string (s.extract i j)) (fun w => ?_) (And.intro hK (.v _))
   simp [execOp, ho, hv, Instr.sliceAt, Instr.slice, run_underlying hu, run_bounds (P := P) hij hjm m1 m2 m3 m4]
  ·rename_i e hu
   split at h
   ·rename_i ri hri
    obtain ⟨ie, z, hut, hie, hsz, _⟩ := tyOf_row hri
    obtain rfl : e = ri.e := by
     rw [hu] at hut
     simpa using hut
    have hsz' : sizeT P ri.e = some ri.t.sz := by simp [sizeT, hie, hsz]
    have run : ∀ {A : Option Addr} {n c i j : Nat}, v = .slice A n c -> i ≤ j -> j ≤ c -> (l = none -> i = 0) -> (∀ x, l = some x -> x = (i : Int)) -> (h' = none -> j = n) -> (∀ x, h' = some x -> x = (j : Int)) →
      ∀ w, (execOp a.eval o).run P w = .ok (.value (.slice (if c = i then A else A.map (·.add (i * ri.t.sz))) (j - i) (c - i))) w := by
     intro A n c i j e hij hjm k1 k2 k3 k4 w
     subst e
     obtain ⟨m1, m2⟩ := hlo i k1 k2
     obtain ⟨m3, m4⟩ := hhi j n k3 k4
     simp [execOp, ho, hv, Instr.sliceAt, Instr.slice, run_underlying hu, run_bounds (P := P) hij hjm m1 m2 m3 m4, run_sizeT hsz']
    split at h
    ·rename_i hn
     rw [isNil_eq hn] at hx h
     have hx := rep_v hx
     obtain ⟨i, j, hK, hij, hjm, k1, k2, k3, k4⟩ := cut_ok (Nat.le_refl _) h
     obtain rfl : i = 0 := by omega
     obtain rfl : j = 0 := by omega
     refine pu_mk (v := .slice none 0 0) (fun w => ?_) (And.intro hK (.v _))
     have := run hx (Nat.le_refl _) (Nat.le_refl _) k1 k2 k3 k4 w
     simpa using this
    ·split at h
     ·rename_i s he
      rw [he] at hx
      split at h
      ·rename_i ht
       cases hx with
       |rd _ A c hc hrow =>
        obtain ⟨i, j, hK, hij, hjm, k1, k2, k3, k4⟩ := cut_ok (Nat.le_refl _) h
        have hn : i + (j - i) ≤ s.xs.length := by omega
        have hl' := sub_len hn
        refine pu_mk (run rfl hij (by omega) k1 k2 k3 k4) (And.intro hK ?_)
        have h2 := RepV.rd (w := w) (ok := okB cx β σ.ob) (β := β) (s.sub i (j - i)) (if c = i then A else A.map (·.add (i * ri.t.sz))) (c - i) (by rw [hl']; omega) (by
         intro hpos
         have hpos' : 0 < j - i := by rw [← hl']; exact hpos
         have h3 := hrow.sub hn
         rw [if_neg (by omega), ← ht]
         exact h3 hpos)
        rw [hl'] at h2
        exact h2
      ·cases h
     ·rename_i b he
      rw [he] at hx
      split at h
      ·rename_i s hs
       split at h
       ·rename_i ht
        cases hx with
        |own _ _ hb =>
         obtain ⟨A, c, rfl, hc, _⟩ := own_slice g.W hs hb
         obtain ⟨i, j, hK, hij, hjm, k1, k2, k3, k4⟩ := cut_ok (Nat.le_refl _) h
         refine pu_mk (run rfl hij (by omega) k1 k2 k3 k4) (And.intro hK (.view _ _ _ _ A s.xs.length c _ hb (by omega) hc ?_))
         by_cases hci : c = i
         ·rw [if_pos hci]
          by_cases h0 : i = 0
          ·subst h0
           left
           cases A <;> simp [Addr.add]
          ·exact .inr ⟨hci, by omega⟩
         ·rw [if_neg hci, ht]
          exact .inl rfl
       ·cases h
      ·cases h
     ·rename_i b z lo' n he
      rw [he] at hx
      split at h
      ·rename_i s hs
       split at h
       ·rename_i htz
        obtain ⟨ht, hz⟩ := htz
        cases hx with
        |view _ _ _ _ A0 L c0 A hb hn hL hA =>
         obtain ⟨A', c', he0, hc, _⟩ := own_slice g.W hs hb
         obtain ⟨rfl, rfl, rfl⟩ := Value.slice.inj he0
         obtain ⟨i, j, hK, hij, hjm, k1, k2, k3, k4⟩ := cut_ok (by omega) h
         refine pu_mk (run rfl hij (by omega) k1 k2 k3 k4) (And.intro hK ?_)
         have e1 : c0 - lo' - i = c0 - (lo' + i) := by omega
         rw [e1]
         refine .view _ _ _ _ A0 s.xs.length c0 _ hb (by omega) hc ?_
         by_cases hci : c0 - lo' = i
         ·rw [if_pos hci]
          by_cases h0 : lo' + i = 0
          ·left
           have h1 : lo' = 0 := by omega
           have h2 : i = 0 := by omega
           subst h1 h2
           rcases hA with rfl | ⟨_, h⟩
           ·rfl
           ·omega
          ·exact .inr ⟨by omega, by omega⟩
         ·rw [if_neg hci]
          left
          rcases hA with rfl | ⟨h1, _⟩
          ·rw [← ht, hz, Nat.add_mul]
           cases A0 with
           |none => rfl
           |some ad => simp [add_add]
          ·omega
       ·cases h
      ·cases h
     ·rename_i b he
      exact absurd he (hnn b)
     ·cases h
   ·cases h
  ·cases h
 ·cases h

end Go.Ev
