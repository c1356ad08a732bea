/- Strolls through a machine, in plain lists. -/
import Derived.Test.YtdnjhojjicjndaaEvWalk21
import Derived.Test.YtdnjhojjicjndaaEvWord
namespace Go.Ev
set_option linter.unusedVariables false
set_option linter.unusedSimpArgs false

def incS (l : List Int) (i : Nat) : List Int := l.set i (IntKind.i64.wrap (l.getD i 0 + 1))
abbrev TS := Int × List Int × List Int
/-- One symbol: where one is, how often one was where, which ways one went. -/
def tstep (K : Int) (nx : List Int) (t : TS) (c : Int) : TS :=
  (nx.getD (t.1 * K + c).toNat 0, incS t.2.1 (nx.getD (t.1 * K + c).toNat 0).toNat, incS t.2.2 (t.1 * K + c).toNat)
def tword (K : Int) (nx : List Int) (t : TS) (w : List Int) : TS := w.foldl (tstep K nx) (0, incS t.2.1 0, t.2.2)
def told0 (nx : List Int) (N : Int) : TS := (0, List.replicate N.toNat 0, List.replicate nx.length 0)
def toldS (K : Int) (nx : List Int) (N : Int) (words : List (List Int)) : TS := words.foldl (tword K nx) (told0 nx N)

/-- What holds on the way. -/
def tsane (nx : List Int) (N : Int) (t : TS) : Prop := (0 ≤ t.1 ∧ t.1 < N) ∧ (t.2.1.length : Int) = N ∧ t.2.2.length = nx.length

theorem tstep_sane {k K O N : Int} {nx ou : List Int} (F : Fine k K O N nx ou) {t : TS} (h : tsane nx N t) {c : Int} (hc : 0 ≤ c ∧ c < K) : tsane nx N (tstep K nx t c) := by
  have h1 := idx_in h.1 hc
  have h2 := F.fnx
  refine ⟨?_, ?_, ?_⟩
  · show 0 ≤ nx.getD _ 0 ∧ nx.getD _ 0 < N
    rw [getD_of 0 (by omega)]
    exact F.fnxs _ (List.getElem_mem _)
  · show ((incS _ _).length : Int) = N
    unfold incS
    rw [List.length_set]
    exact h.2.1
  · show (incS _ _).length = _
    unfold incS
    rw [List.length_set]
    exact h.2.2
theorem tstart_sane {nx : List Int} {N : Int} {t : TS} (hN : 1 ≤ N) (h : tsane nx N t) : tsane nx N (0, incS t.2.1 0, t.2.2) :=
  ⟨by dsimp only; omega, by show ((incS _ _).length : Int) = N; unfold incS; rw [List.length_set]; exact h.2.1, h.2.2⟩
theorem tfold_sane {k K O N : Int} {nx ou : List Int} (F : Fine k K O N nx ou) : ∀ (w : List Int) (t : TS), tsane nx N t → validW K w → tsane nx N (w.foldl (tstep K nx) t)
  | [], t, h, _ => h
  | c :: w, t, h, hv => tfold_sane F w _ (tstep_sane F h (hv c (by simp))) fun x hx => hv x (by simp [hx])
theorem tword_sane {k K O N : Int} {nx ou : List Int} (F : Fine k K O N nx ou) {t : TS} (h : tsane nx N t) {w : List Int} (hv : validW K w) : tsane nx N (tword K nx t w) :=
  tfold_sane F w _ (tstart_sane F.fN.1 h) hv
theorem told0_sane {k K O N : Int} {nx ou : List Int} (F : Fine k K O N nx ou) : tsane nx N (told0 nx N) := by
  have := F.fN
  exact ⟨by show 0 ≤ (0 : Int) ∧ (0 : Int) < N; omega, by show ((List.replicate N.toNat (0 : Int)).length : Int) = N; rw [List.length_replicate]; omega, by show (List.replicate nx.length (0 : Int)).length = _; rw [List.length_replicate]⟩
theorem told_sane {k K O N : Int} {nx ou : List Int} (F : Fine k K O N nx ou) {ws : List (List Int)} (h : ∀ w ∈ ws, validW K w) : tsane nx N (toldS K nx N ws) := by
  have : ∀ (ws : List (List Int)) (t : TS), tsane nx N t → (∀ w ∈ ws, validW K w) → tsane nx N (ws.foldl (tword K nx) t) := by
    intro ws
    induction ws with
    | nil => exact fun t h _ => h
    | cons w ws ih => exact fun t h hv => ih _ (tword_sane F h (hv w (by simp))) fun v hm => hv v (by simp [hm])
  exact this ws _ (told0_sane F) h

/-! ### Strolls -/

abbrev SS := Int × List (List Int) × List Int
def seedS (seed : Int) : Int := if seed = 0 then 88172645463325252 else seed
def turnS (stop : Int) (p : SS) : List (List Int) × List Int := if (intS stop p.1).1 = 0 ∨ p.2.2.length = 4096 then (p.2.1 ++ [p.2.2], []) else p.2
def sstep (stop K : Int) (p : SS) : SS := ((intS K (intS stop p.1).2).2, (turnS stop p).1, (turnS stop p).2 ++ [(intS K (intS stop p.1).2).1])
def sgo (stop K : Int) : Nat → SS → SS
  | 0, p => p
  | n + 1, p => sgo stop K n (sstep stop K p)
def wordsS (stop K seed steps : Int) : List (List Int) :=
  (sgo stop K steps.toNat (seedS seed, [], [])).2.1 ++ [(sgo stop K steps.toNat (seedS seed, [], [])).2.2]

def lensS (ws : List (List Int)) : Nat := (ws.map List.length).sum
theorem lensS_snoc (ws : List (List Int)) (w : List Int) : lensS (ws ++ [w]) = lensS ws + w.length := by
  unfold lensS
  simp

/-- What holds of a stroll after so many steps. -/
structure Way (K : Int) (i : Nat) (p : SS) : Prop where
  old : ∀ w ∈ p.2.1, w.length ≤ 4096 ∧ validW K w
  now : p.2.2.length ≤ 4096 ∧ validW K p.2.2
  sum : lensS p.2.1 + p.2.2.length = i
  few : p.2.1.length ≤ i

theorem turn_way {K stop : Int} {i : Nat} {p : SS} (W : Way K i p) : (∀ w ∈ (turnS stop p).1, w.length ≤ 4096 ∧ validW K w) ∧ ((turnS stop p).2.length < 4096 ∧ validW K (turnS stop p).2) ∧ lensS (turnS stop p).1 + (turnS stop p).2.length = i ∧ (turnS stop p).1.length ≤ i + 1 := by
  unfold turnS
  by_cases h : (intS stop p.1).1 = 0 ∨ p.2.2.length = 4096
  · rw [if_pos h]
    refine ⟨fun w hw => ?_, ⟨(by simp), fun x hx => (by cases hx)⟩, ?_, ?_⟩
    · rcases List.mem_append.1 hw with hw | hw
      · exact W.old w hw
      · rw [List.mem_singleton] at hw
        subst hw
        exact W.now
    · have := W.sum
      rw [lensS_snoc]
      exact this
    · have := W.few
      show (p.2.1 ++ [p.2.2]).length ≤ _
      rw [List.length_append, List.length_singleton]
      omega
  · rw [if_neg h]
    have h1 := W.now.1
    have h2 := W.few
    have h3 := W.sum
    exact ⟨W.old, ⟨by omega, W.now.2⟩, h3, by omega⟩

theorem sstep_way {K stop : Int} (hK : 1 ≤ K ∧ K ≤ 64) {i : Nat} {p : SS} (W : Way K i p) : Way K (i + 1) (sstep stop K p) := by
  obtain ⟨h1, h2, h3, h4⟩ := turn_way (stop := stop) W
  have hc := intS_in (n := K) (x := (intS stop p.1).2) hK.1 ⟨by omega, by omega⟩
  refine ⟨h1, ⟨?_, ?_⟩, ?_, h4⟩
  · show ((turnS stop p).2 ++ [_]).length ≤ 4096
    rw [List.length_append, List.length_singleton]
    omega
  · intro x hx
    rcases List.mem_append.1 hx with hx | hx
    · exact h2.2 x hx
    · rw [List.mem_singleton] at hx
      subst hx
      exact hc
  · show lensS (turnS stop p).1 + ((turnS stop p).2 ++ [_]).length = i + 1
    rw [List.length_append, List.length_singleton]
    omega

theorem sgo_way {K stop : Int} (hK : 1 ≤ K ∧ K ≤ 64) : ∀ (n i : Nat) (p : SS), Way K i p → Way K (i + n) (sgo stop K n p)
  | 0, i, p, W => W
  | n + 1, i, p, W => by
    have := sgo_way (stop := stop) hK n (i + 1) _ (sstep_way (stop := stop) hK W)
    rw [show i + (n + 1) = i + 1 + n by omega]
    exact this
theorem way0 (K x : Int) : Way K 0 (x, [], []) := ⟨fun w hw => (by cases hw), ⟨Nat.zero_le _, fun x hx => (by cases hx)⟩, rfl, Nat.le_refl 0⟩

theorem wordsS_ok {K stop seed steps : Int} (hK : 1 ≤ K ∧ K ≤ 64) : (∀ w ∈ wordsS stop K seed steps, w.length ≤ 4096 ∧ validW K w) ∧ lensS (wordsS stop K seed steps) = steps.toNat ∧ (wordsS stop K seed steps).length ≤ steps.toNat + 1 := by
  have W := sgo_way (stop := stop) hK steps.toNat 0 _ (way0 K (seedS seed))
  rw [Nat.zero_add] at W
  unfold wordsS
  generalize sgo stop K steps.toNat (seedS seed, [], []) = p at *
  refine ⟨fun w hw => ?_, ?_, ?_⟩
  · rcases List.mem_append.1 hw with hw | hw
    · exact W.old w hw
    · rw [List.mem_singleton] at hw
      subst hw
      exact W.now
  · rw [lensS_snoc]
    exact W.sum
  · have := W.few
    rw [List.length_append, List.length_singleton]
    omega

/-- What the counts tell at a place of a stroll. -/
def plcS (K : Int) (nx : List Int) (N : Int) (q : List (List Int) × List Int) : TS := tword K nx (toldS K nx N q.1) q.2
theorem plcS_snoc (K : Int) (nx : List Int) (N : Int) (ws : List (List Int)) (w : List Int) (c : Int) : plcS K nx N (ws, w ++ [c]) = tstep K nx (plcS K nx N (ws, w)) c := by
  unfold plcS tword
  rw [List.foldl_append]
  rfl
theorem told_snoc (K : Int) (nx : List Int) (N : Int) (ws : List (List Int)) (w : List Int) : toldS K nx N (ws ++ [w]) = plcS K nx N (ws, w) := by
  unfold plcS toldS
  rw [List.foldl_append]
  rfl
theorem plcS_new (K : Int) (nx : List Int) (N : Int) (ws : List (List Int)) (w : List Int) : plcS K nx N (ws ++ [w], []) = (0, incS (plcS K nx N (ws, w)).2.1 0, (plcS K nx N (ws, w)).2.2) := by
  show tword K nx (toldS K nx N (ws ++ [w])) [] = _
  rw [told_snoc]
  rfl

end Go.Ev
