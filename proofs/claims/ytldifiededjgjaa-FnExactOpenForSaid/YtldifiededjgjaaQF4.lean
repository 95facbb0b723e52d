/- FnExactOpenFor: the program answers as the reference. -/
import Derived.Test.YtldifiededjgjaaQF3
namespace Go.Proofs.Ytldifiededjgjaa.Pu
open Go.RowKit Go.Proofs.Ytldifiededjgjaa.P Go.Proofs.YtldifiededjgjaaW.PrintWords
def sumpB (s : S44) : Bool := decide ((0 ≤ s.f0 ∧ s.f0 ≤ 7) ∧ (-500 ≤ s.f1 ∧ s.f1 ≤ 500) ∧ (-500 ≤ s.f2 ∧ s.f2 ≤ s.f1))
theorem ssump (s : S44) : spec_l23Sump.f s.f0 s.f1 s.f2 = some (sumpB s) := by
  unfold spec_l23Sump.f spec_l4Station.f sumpB
  rw [l1In_eq, level_eq, l1In_eq]
  by_cases a : 0 ≤ s.f0 ∧ s.f0 ≤ 7 <;> by_cases b : -500 ≤ s.f1 ∧ s.f1 ≤ 500 <;> simp [a, b]
theorem isump (s : S44) : impl_isSump.f s.f0 s.f1 s.f2 = some (sumpB s) := by
  unfold impl_isSump.f impl_isStation.f sumpB
  rw [within_eq, isLevel_eq, isLevel_eq]
  by_cases a : 0 ≤ s.f0 ∧ s.f0 ≤ 7
  · by_cases b : -500 ≤ s.f1 ∧ s.f1 ≤ 500
    · by_cases c : -500 ≤ s.f2 ∧ s.f2 ≤ 500
      · simp [a, b, c]
      · simp only [a, b, c, decide_true, decide_false, Option.bind_some, if_true, and_self, true_and, Bool.false_eq_true, if_false]
        exact congrArg some (decide_eq_false (by omega)).symm
    · simp [a, b]
  · simp [a]
def sumpsFrom (l : List S44) : Nat → Int → Bool
  | 0, _ => true
  | n + 1, i => sumpB (rd_T44 l i) && (!(decide (i > 0) && decide ((rd_T44 l (i - 1)).f0 ≥ (rd_T44 l i).f0)) && sumpsFrom l n (i + 1))
def sumpsB (l : List S44) : Bool := sumpsFrom l l.length 0
theorem ssumps_l0 (l : List S44) (hl : (l.length : Int) ≤ 1000000000000) : ∀ (d : Nat) (i : Int), 0 ≤ i → (l.length : Int) - i = d → Ev (fun k => spec_l23Sumps.l0 k l i) (sumpsFrom l d i) := by
  intro d
  induction d with
  | zero => intro i h0 hd; exact Ev.step (fun k => spec_l23Sumps.l0.eq_2 l i k) (Ev.neg (by omega) (Ev.now _))
  | succ d ih =>
    intro i h0 hd
    have e : wrap64 (i + 1) = i + 1 := wr (by omega) (by omega)
    have e1 : wrap64 (i - 1) = i - 1 := wr (by omega) (by omega)
    refine Ev.step (fun k => spec_l23Sumps.l0.eq_2 l i k) (Ev.pos (by omega) (Ev.pos h0 (Ev.bindS (ssump _) ?_)))
    simp only [e, e1]
    have nx := ih (i + 1) (by omega) (by omega)
    unfold sumpsFrom
    by_cases c : sumpB (rd_T44 l i) = true
    · refine Ev.pos c ?_
      rw [c, Bool.true_and]
      by_cases c2 : i > 0
      · refine Ev.pos c2 (Ev.pos (by omega) (Ev.pos (by omega) ?_))
        by_cases c3 : (rd_T44 l (i - 1)).f0 ≥ (rd_T44 l i).f0
        · exact Ev.pos c3 (Ev.to (Ev.now _) (by simp [c2, c3]))
        · exact Ev.neg c3 (Ev.to nx (by simp [c3]))
      · exact Ev.neg c2 (Ev.to nx (by simp [c2]))
    · refine Ev.neg c (Ev.to (Ev.now _) ?_)
      cases x : sumpB (rd_T44 l i) <;> simp_all
theorem isumps_l0 (l : List S44) (hl : (l.length : Int) ≤ 1000000000000) : ∀ (d : Nat) (i : Int), 0 ≤ i → (l.length : Int) - i = d → Ev (fun k => impl_AreSumps.l0 k l l (l.length : Int) i) (sumpsFrom l d i) := by
  intro d
  induction d with
  | zero => intro i h0 hd; exact Ev.step (fun k => impl_AreSumps.l0.eq_2 l l _ i k) (Ev.neg (by omega) (Ev.now _))
  | succ d ih =>
    intro i h0 hd
    have e : wrap64 (i + 1) = i + 1 := wr (by omega) (by omega)
    have e1 : wrap64 (i - 1) = i - 1 := wr (by omega) (by omega)
    refine Ev.step (fun k => impl_AreSumps.l0.eq_2 l l _ i k) (Ev.pos (by omega) (Ev.pos h0 (Ev.pos (by omega) (Ev.bindS (isump _) ?_))))
    simp only [e, e1]
    have nx := ih (i + 1) (by omega) (by omega)
    unfold sumpsFrom
    by_cases c : sumpB (rd_T44 l i) = true
    · refine Ev.pos c ?_
      rw [c, Bool.true_and]
      by_cases c2 : i > 0
      · refine Ev.pos c2 (Ev.pos (by omega) (Ev.pos (by omega) ?_))
        by_cases c3 : (rd_T44 l (i - 1)).f0 ≥ (rd_T44 l i).f0
        · exact Ev.pos c3 (Ev.to (Ev.now _) (by simp [c2, c3]))
        · exact Ev.neg c3 (Ev.to nx (by simp [c3]))
      · exact Ev.neg c2 (Ev.to nx (by simp [c2]))
    · refine Ev.neg c (Ev.to (Ev.now _) ?_)
      cases x : sumpB (rd_T44 l i) <;> simp_all
theorem ssumps (l : List S44) (hl : (l.length : Int) ≤ 1000000000000) : Ev (fun k => spec_l23Sumps.f k l) (sumpsB l) := ssumps_l0 l hl l.length 0 (Int.le_refl _) (by omega)
theorem isumps (l : List S44) (hl : (l.length : Int) ≤ 1000000000000) : Ev (fun k => impl_AreSumps.f k l) (sumpsB l) := isumps_l0 l hl l.length 0 (Int.le_refl _) (by omega)
theorem sumps_ok {l : List S44} (h : sumpsB l = true) : ∀ s ∈ l, sumpB s = true := by
  have key : ∀ (d : Nat) (i : Int), 0 ≤ i → (l.length : Int) - i = d → sumpsFrom l d i = true → ∀ j : Nat, i ≤ j → j < l.length → sumpB (rd_T44 l j) = true := by
    intro d
    induction d with
    | zero => intro i _ hd _ j a b; omega
    | succ d ih =>
      intro i h0 hd g j a b
      unfold sumpsFrom at g
      simp only [Bool.and_eq_true] at g
      by_cases e : i = j
      · rw [← e]; exact g.1
      · exact ih (i + 1) (by omega) (by omega) g.2.2 j (by omega) b
  intro s hs
  obtain ⟨j, hj, rfl⟩ := List.getElem_of_mem hs
  have := key l.length 0 (Int.le_refl _) (by omega) h j (by omega) hj
  unfold rd_T44 at this
  rw [Int.toNat_natCast, List.getD_eq_getElem?_getD, List.getElem?_eq_getElem hj] at this
  exact this
noncomputable def pos (l : List S30) (h : Int) : Int := @dite _ (InH l h) (Classical.propDecidable _) (fun g => Classical.choose (level_both l h g)) (fun _ => 0)
theorem pos_ok {l : List S30} {h : Int} (g : InH l h) : At l h (pos l h) ∧ Ev (fun k => impl_levelIn.f k l h) (lev l h (pos l h)) ∧ Ev (fun k => spec_l23In.f k l h) (lev l h (pos l h)) := by
  unfold pos
  rw [dif_pos g]
  exact Classical.choose_spec (level_both l h g)
noncomputable def op (l : List S30) (o h : Int) : Bool := decide ((lev l h (pos l h)).1 ≤ wrap64 (o * (lev l h (pos l h)).2))
theorem iopen {l : List S30} {h : Int} (g : InH l h) (a b o : Int) : Ev (fun k => impl_Sump_open.f k a b o l h) (op l o h) := by
  unfold impl_Sump_open.f
  exact Ev.bind (pos_ok g).2.1 (Ev.now _)
theorem sopen {l : List S30} {h : Int} (g : InH l h) (a b o : Int) : Ev (fun k => spec_l23Open.f k l a b o h) (op l o h) := by
  unfold spec_l23Open.f
  exact Ev.bind (pos_ok g).2.2 (Ev.now _)
noncomputable def shut (l : List S30) (h : Int) (ss : List S44) : List Int := (ss.filter (fun s => !op l s.f2 h)).map (·.f0)
theorem rd44 (l : List S44) (M L : List S44) (s : S44) (e : M ++ s :: L = l) (i : Int) (hi : i = M.length) : rd_T44 l i = s := by
  unfold rd_T44
  rw [← e, hi, Int.toNat_natCast]
  simp [List.getD_eq_getElem?_getD]
theorem shut_len (l : List S30) (h : Int) (ss : List S44) : (shut l h ss).length ≤ ss.length := by
  unfold shut
  rw [List.length_map]
  exact List.length_filter_le _ _
theorem sclosed_l0 {l : List S30} {h : Int} (g : InH l h) (ss : List S44) (hl : (ss.length : Int) ≤ 1000000000000) : ∀ (L M : List S44) (i : Int) (out : List Int), 0 ≤ i → i = M.length → M ++ L = ss → out.length ≤ M.length →
    Ev (fun k => spec_l23Closed.l0 k l ss h out i) (out ++ shut l h L) := by
  intro L
  induction L with
  | nil =>
    intro M i out h0 hi e ho
    have len := congrArg List.length e
    simp at len
    exact Ev.step (fun k => spec_l23Closed.l0.eq_2 l ss h out i k) (Ev.neg (by omega) (Ev.to (Ev.now _) (by simp [shut])))
  | cons s L ih =>
    intro M i out h0 hi e ho
    have len := congrArg List.length e
    simp at len
    have w : wrap64 (i + 1) = i + 1 := wr (by omega) (by omega)
    have rd0 := rd44 ss M L s e i hi
    refine Ev.step (fun k => spec_l23Closed.l0.eq_2 l ss h out i k) (Ev.pos (by omega) (Ev.pos h0 ?_))
    simp only [rd0, w]
    refine Ev.bind (sopen g _ _ _) ?_
    have nx := fun out' ho' => ih (M ++ [s]) (i + 1) out' (by omega) (by simp; omega) (by rw [← e]; simp) ho'
    by_cases c : op l s.f2 h = true
    · refine Ev.pos c (Ev.to (nx out (by simp; omega)) ?_)
      simp [shut, c]
    · refine Ev.neg c (Ev.pos (by omega) (Ev.to (nx _ (by simp; omega)) ?_))
      simp [shut, c]
theorem sclosed {l : List S30} {h : Int} (g : InH l h) (ss : List S44) (hl : (ss.length : Int) ≤ 1000000000000) : Ev (fun k => spec_l23Closed.f k l ss h) (shut l h ss) :=
  Ev.to (sclosed_l0 g ss hl ss [] 0 [] (Int.le_refl _) rfl rfl (Nat.le_refl _)) rfl
noncomputable def opens (l : List S30) (ss : List S44) (h : Int) : Bool := (shut l h ss).isEmpty
theorem iopens_l0 {l : List S30} {h : Int} (ss : List S44) (hl : (ss.length : Int) ≤ 1000000000000) (p : Nat → S44 → Option Bool) (hp : ∀ s ∈ ss, Ev (fun k => p k s) (!op l s.f2 h)) :
    ∀ (L M : List S44) (i : Int), 0 ≤ i → i = M.length → M ++ L = ss → ∃ r, (r ≥ 0 ↔ ¬ opens l L h = true) ∧ ∃ K, ∀ k, K ≤ k → ∀ m, L.length < m → impl_Sump_91.l0 m ss (p k) (ss.length : Int) i = some r := by
  intro L
  induction L with
  | nil =>
    intro M i h0 hi e
    have len := congrArg List.length e
    simp at len
    refine ⟨-1, by simp [opens, shut], 0, fun k _ m hm => ?_⟩
    obtain ⟨m, rfl⟩ : ∃ j, m = j + 1 := ⟨m - 1, by simp at hm; omega⟩
    rw [impl_Sump_91.l0.eq_2, if_neg (by omega)]
  | cons s L ih =>
    intro M i h0 hi e
    have len := congrArg List.length e
    simp at len
    have w : wrap64 (i + 1) = i + 1 := wr (by omega) (by omega)
    have rd0 := rd44 ss M L s e i hi
    obtain ⟨r, hr, K, hK⟩ := ih (M ++ [s]) (i + 1) (by omega) (by simp; omega) (by rw [← e]; simp)
    obtain ⟨K', hK'⟩ := hp s (by rw [← e]; simp)
    by_cases c : op l s.f2 h = true
    · refine ⟨r, by rw [hr]; simp [opens, shut, c], K + K', fun k hk m hm => ?_⟩
      obtain ⟨m, rfl⟩ : ∃ j, m = j + 1 := ⟨m - 1, by omega⟩
      rw [impl_Sump_91.l0.eq_2, if_pos (by omega), if_pos h0, if_pos (by omega), rd0]
      have this : p k s = some (!op l s.f2 h) := hK' k (by omega)
      rw [this, c]
      simp only [Option.bind_some, Bool.not_true, Bool.false_eq_true, if_false, w]
      exact hK k (by omega) m (by simp at hm; omega)
    · refine ⟨i, by simp [opens, shut, c, h0], K', fun k hk m hm => ?_⟩
      obtain ⟨m, rfl⟩ : ∃ j, m = j + 1 := ⟨m - 1, by omega⟩
      rw [impl_Sump_91.l0.eq_2, if_pos (by omega), if_pos h0, if_pos (by omega), rd0]
      have this : p k s = some (!op l s.f2 h) := hK' k (by omega)
      rw [this]
      have cf : op l s.f2 h = false := by cases x : op l s.f2 h <;> simp_all
      simp [cf]
theorem iopens {l : List S30} {h : Int} (g : InH l h) (ss : List S44) (hl : (ss.length : Int) ≤ 1000000000000) : Ev (fun k => impl_OpenFor_1.f k h ss l) (opens l ss h) := by
  have hp : ∀ s ∈ ss, Ev (fun k => (fun (k : Nat) (x_ : S44) => impl_OpenFor_1_1.f k x_.f0 x_.f1 x_.f2 l h) k s) (!op l s.f2 h) := by
    intro s _
    simp only []
    unfold impl_OpenFor_1_1.f
    exact Ev.bind (iopen g _ _ _) (Ev.now _)
  obtain ⟨r, hr, K, hK⟩ := iopens_l0 ss hl _ hp ss [] 0 (Int.le_refl _) rfl rfl
  refine ⟨K + ss.length + 1, fun k hk => ?_⟩
  unfold impl_OpenFor_1.f impl_Sump_75.f impl_Sump_91.f
  have := hK k (by omega) k (by omega)
  simp only []
  rw [this]
  simp only [Option.bind_some]
  by_cases c : r ≥ 0
  · have := hr.mp c
    simp [c, this]
  · have : opens l ss h = true := by
      cases x : opens l ss h
      · exact absurd (hr.mpr (by simp [x])) c
      · rfl
    simp [c, this]
theorem Ev.all {α : Type} (F : Nat → Int → Option α) (P : Int → α) (lo : Int) : ∀ (n : Nat), (∀ x, lo ≤ x → x < lo + n → Ev (fun k => F k x) (P x)) → ∃ K, ∀ k, K ≤ k → ∀ x, lo ≤ x → x < lo + n → F k x = some (P x) := by
  intro n
  induction n with
  | zero => intro _; exact ⟨0, fun k _ x a b => by omega⟩
  | succ n ih =>
    intro h
    obtain ⟨K, hK⟩ := ih (fun x a b => h x a (by omega))
    obtain ⟨K', hK'⟩ := h (lo + n) (by omega) (by omega)
    refine ⟨K + K', fun k hk x a b => ?_⟩
    by_cases e : x = lo + n
    · rw [e]; exact hK' k (by omega)
    · exact hK k (by omega) x a (by omega)
noncomputable def Q (l : List S30) (ss : List S44) (h : Int) : Bool := inB l h && opens l ss h
noncomputable def okFor (l : List S30) (ss : List S44) (c : Int) : Bool := goodB l && (sumpsB ss && decide (1 ≤ c ∧ c ≤ 100))
theorem sfor_l0 (l : List S30) (ss : List S44) (c : Int) (hl : (l.length : Int) ≤ 1000000000000) (hs : (ss.length : Int) ≤ 1000000000000) (hc : 1 ≤ c ∧ c ≤ 100) (out : ∀ x, x < 0 ∨ 1000 ≤ x → Q l ss x = false) :
    ∀ (d : Nat) (h r : Int), 0 ≤ h → 1000 - h = d → 0 ≤ r → r < c → (∀ x, h - r ≤ x → x < h → Q l ss x = true) → Q l ss (h - r - 1) = false → (∀ a, a + c ≤ h → ¬ Run (Q l ss) c a) →
      ∃ a, Ans (Q l ss) c a ∧ Ev (fun k => spec_OpenFor.l0 k l ss c r h) a := by
  intro d
  induction d with
  | zero =>
    intro h r h0 hd r0 rc run bef no
    refine ⟨(0, false), .inr ⟨rfl, fun a g => ?_⟩, Ev.step (fun k => spec_OpenFor.l0.eq_2 l ss c r h k) (Ev.neg (by omega) (Ev.now _))⟩
    by_cases e : a + c ≤ h
    · exact no a e g
    · have := g (a + c - 1) (by omega) (by omega)
      rw [out _ (by omega)] at this
      cases this
  | succ d ih =>
    intro h r h0 hd r0 rc run bef no
    have w : wrap64 (h + 1) = h + 1 := wr (by omega) (by omega)
    have w1 : wrap64 (r + 1) = r + 1 := wr (by omega) (by omega)
    have w2 : wrap64 (wrap64 (h - c) + 1) = h - c + 1 := by rw [wr (x := h - c) (by omega) (by omega), wr (by omega) (by omega)]
    have off : Q l ss h = false → ∃ a, Ans (Q l ss) c a ∧ Ev (fun k => spec_OpenFor.j2 k l ss c (wrap64 (r + 1)) h true) a := by
      intro q
      have no' : ∀ a, a + c ≤ h + 1 → ¬ Run (Q l ss) c a := by
        intro a e g
        by_cases e' : a + c ≤ h
        · exact no a e' g
        · have := g h (by omega) (by omega)
          rw [q] at this
          cases this
      obtain ⟨a, ha, hr⟩ := ih (h + 1) 0 (by omega) (by omega) (by omega) (by omega) (fun x u v => by omega) (by rw [show h + 1 - 0 - 1 = h from by omega]; exact q) no'
      refine ⟨a, ha, Ev.step (fun k => spec_OpenFor.j2.eq_2 l ss c _ h true k) (Ev.pos rfl (Ev.neg (by omega) ?_))⟩
      rw [w]
      exact hr
    by_cases g : InH l h
    · have gb := inB_true g
      by_cases o : opens l ss h = true
      · have q : Q l ss h = true := by unfold Q; rw [gb, o]; rfl
        have z : decide (((shut l h ss).length : Int) > 0) = false := by
          unfold opens at o
          rw [List.isEmpty_iff.mp o]
          rfl
        have run' : ∀ x, h + 1 - (r + 1) ≤ x → x < h + 1 → Q l ss x = true := by
          intro x u v
          by_cases e : x = h
          · rw [e]; exact q
          · exact run x (by omega) (by omega)
        by_cases e : r + 1 = c
        · refine ⟨(h - c + 1, true), .inl ⟨rfl, fun x u v => ?_, fun a ha g' => ?_⟩, ?_⟩
          · simp only [] at u v
            exact run' x (by omega) (by omega)
          · simp only [] at ha
            exact no a (by omega) g'
          · refine Ev.step (fun k => spec_OpenFor.l0.eq_2 l ss c r h k) (Ev.pos (by omega) (Ev.bind (swithin l h hl) (Ev.pos gb (Ev.bind (sclosed g ss hs) ?_))))
            rw [z, w1]
            refine Ev.step (fun k => spec_OpenFor.j2.eq_2 l ss c _ h false k) (Ev.neg (by simp) (Ev.pos e ?_))
            rw [w2]
            exact Ev.now _
        · have no' : ∀ a, a + c ≤ h + 1 → ¬ Run (Q l ss) c a := by
            intro a e1 g'
            by_cases e' : a + c ≤ h
            · exact no a e' g'
            · have := g' (h - r - 1) (by omega) (by omega)
              rw [bef] at this
              cases this
          obtain ⟨a, ha, hr⟩ := ih (h + 1) (r + 1) (by omega) (by omega) (by omega) (by omega) run' (by rw [show h + 1 - (r + 1) - 1 = h - r - 1 from by omega]; exact bef) no'
          refine ⟨a, ha, Ev.step (fun k => spec_OpenFor.l0.eq_2 l ss c r h k) (Ev.pos (by omega) (Ev.bind (swithin l h hl) (Ev.pos gb (Ev.bind (sclosed g ss hs) ?_))))⟩
          rw [z, w1]
          refine Ev.step (fun k => spec_OpenFor.j2.eq_2 l ss c _ h false k) (Ev.neg (by simp) (Ev.neg e ?_))
          rw [w]
          exact hr
      · have q : Q l ss h = false := by unfold Q; cases x : opens l ss h <;> simp_all
        obtain ⟨a, ha, hr⟩ := off q
        refine ⟨a, ha, Ev.step (fun k => spec_OpenFor.l0.eq_2 l ss c r h k) (Ev.pos (by omega) (Ev.bind (swithin l h hl) (Ev.pos gb (Ev.bind (sclosed g ss hs) ?_))))⟩
        have z : decide (((shut l h ss).length : Int) > 0) = true := by
          refine decide_eq_true ?_
          unfold opens at o
          rcases x : shut l h ss with _ | ⟨y, t⟩
          · rw [x] at o; simp at o
          · simp only [List.length_cons]; omega
        rw [z]
        exact hr
    · have q : Q l ss h = false := by unfold Q; rw [inB_false g]; rfl
      obtain ⟨a, ha, hr⟩ := off q
      refine ⟨a, ha, Ev.step (fun k => spec_OpenFor.l0.eq_2 l ss c r h k) (Ev.pos (by omega) (Ev.bind (swithin l h hl) (Ev.neg (by rw [inB_false g]; simp) hr)))⟩
theorem Q_out {l : List S30} (ss : List S44) (g : GoodR l) : ∀ x, x < 0 ∨ 1000 ≤ x → Q l ss x = false := by
  intro x hx
  have : ¬ InH l x := by
    intro i
    have a := g.h 0 (by omega) (by have := i.2.1; omega)
    have b := g.h ((l.length : Int) - 1) (by have := i.2.1; omega) (by omega)
    have := i.2.2
    omega
  unfold Q
  rw [inB_false this]
  rfl
theorem hours_in {l : List S30} (g : GoodR l) : ∃ lo hi, Ev (fun _ => impl_hours.f l) (lo, hi) ∧ 0 ≤ lo ∧ hi ≤ 999 ∧ lo ≤ hi + 1 ∧ ∀ x, (lo ≤ x ∧ x ≤ hi) ↔ InH l x := by
  have hl := g.len
  by_cases c : (l.length : Int) = 0
  · refine ⟨0, -1, ⟨0, fun k _ => by rw [ihours l (by omega), if_pos c]⟩, by omega, by omega, by omega, fun x => ⟨fun h => by omega, fun h => by have := h.2.1; omega⟩⟩
  · refine ⟨H l 0, H l ((l.length : Int) - 1), ⟨0, fun k _ => by rw [ihours l (by omega), if_neg c]⟩, (g.h 0 (by omega) (by omega)).1, (g.h _ (by omega) (by omega)).2, ?_, fun x => ⟨fun h => ⟨g, by omega, h⟩, fun h => h.2.2⟩⟩
    have := g.le 0 ((l.length : Int) - 1) (by omega) (by omega) (by omega)
    omega
theorem OpenFor_both (l : List S30) (ss : List S44) (c : Int) (hl : (l.length : Int) ≤ 1000000000000) (hs : (ss.length : Int) ≤ 1000000000000) :
    ∃ r, Ev (fun k => spec_OpenFor.f k l ss c) r ∧ Ev (fun k => impl_OpenFor.f k l ss c) r ∧ (r.2 = true → okFor l ss c = true ∧ Run (Q l ss) c r.1) := by
  unfold spec_OpenFor.f impl_OpenFor.f
  have bad : okFor l ss c = false → ∃ r : Int × Bool, Ev (fun k => (spec_l23Good.f k l).bind fun t472 => (if t472 = true then ((spec_l23Sumps.f k ss).bind fun t473 => (if t473 = true then ((spec_l1In.f c 1 100).bind fun t474 => (spec_OpenFor.j0 k l ss c (!t474))) else (spec_OpenFor.j0 k l ss c true))) else (spec_OpenFor.j0 k l ss c true))) r ∧
      Ev (fun k => (impl_AreReadings.f k l).bind fun t500 => (if t500 = true then ((impl_AreSumps.f k ss).bind fun t501 => (if t501 = true then ((impl_within.f c 1 100).bind fun t502 => (impl_OpenFor.j0 k c (!t502) l ss)) else (impl_OpenFor.j0 k c true l ss))) else (impl_OpenFor.j0 k c true l ss))) r ∧ (r.2 = true → okFor l ss c = true ∧ Run (Q l ss) c r.1) := by
    intro no
    have s0 : Ev (fun k => spec_OpenFor.j0 k l ss c true) (0, false) := Ev.step (fun k => spec_OpenFor.j0.eq_2 l ss c true k) (Ev.pos rfl (Ev.now _))
    have i0 : Ev (fun k => impl_OpenFor.j0 k c true l ss) (0, false) := Ev.step (fun k => impl_OpenFor.j0.eq_2 c true l ss k) (Ev.pos rfl (Ev.now _))
    refine ⟨(0, false), Ev.bind (sgood l hl) ?_, Ev.bind (igood l hl) ?_, fun h => by cases h⟩
    · by_cases a : goodB l = true
      · refine Ev.pos a (Ev.bind (ssumps ss hs) ?_)
        by_cases b : sumpsB ss = true
        · refine Ev.pos b (Ev.bindS (l1In_eq _ _ _) ?_)
          have : decide (1 ≤ c ∧ c ≤ 100) = false := by unfold okFor at no; rw [a, b] at no; simpa using no
          rw [this]
          exact s0
        · exact Ev.neg b s0
      · exact Ev.neg a s0
    · by_cases a : goodB l = true
      · refine Ev.pos a (Ev.bind (isumps ss hs) ?_)
        by_cases b : sumpsB ss = true
        · refine Ev.pos b (Ev.bindS (within_eq _ _ _) ?_)
          have : decide (1 ≤ c ∧ c ≤ 100) = false := by unfold okFor at no; rw [a, b] at no; simpa using no
          rw [this]
          exact i0
        · exact Ev.neg b i0
      · exact Ev.neg a i0
  by_cases ok : okFor l ss c = true
  · have ok' := ok
    unfold okFor at ok'
    simp only [Bool.and_eq_true] at ok'
    obtain ⟨a, b, d⟩ := ok'
    have hc := of_decide_eq_true d
    have g := good_of a
    have out := Q_out ss g
    obtain ⟨r, hr, sr⟩ := sfor_l0 l ss c hl hs hc out 1000 0 0 (Int.le_refl _) rfl (Int.le_refl _) (by omega) (fun x u v => by omega) (out _ (by omega)) (fun x e g' => by
      have := g' x (Int.le_refl _) (by omega)
      rw [out x (by omega)] at this
      cases this)
    obtain ⟨lo, hi, hh, h0, h1, h2, hin⟩ := hours_in g
    have evp : ∀ x, lo ≤ x → x < lo + ((hi + 1 - lo).toNat : Int) → Ev (fun k => (fun (k : Nat) (x_ : Int) => impl_OpenFor_1.f k x_ ss l) k x) (Q l ss x) := by
      intro x u v
      have i := (hin x).mp ⟨u, by omega⟩
      refine Ev.to (iopens i ss hs) ?_
      unfold Q
      rw [inB_true i, Bool.true_and]
    obtain ⟨K, hK⟩ := Ev.all (fun (k : Nat) (x_ : Int) => impl_OpenFor_1.f k x_ ss l) (Q l ss) lo _ evp
    have sp : Ev (fun k => impl_spans.f k lo hi (fun x_ : Int => impl_OpenFor_1.f k x_ ss l)) (tbl (scan (Q l ss) (hi + 1 - lo).toNat lo [])) :=
      ⟨K + 2000000, fun k hk => ispans (Q l ss) _ lo hi h0 (by omega) k (by omega) (fun x u v => hK k (by omega) x u (by omega))⟩
    have S := Sp.scan (Q := Q l ss) (hi + 1 - lo).toNat lo [] (Int.le_refl _) (Sp.start _ _)
    have len : ∀ (n : Nat) (h : Int) (R : List (Int × Int)), (scan (Q l ss) n h R).length ≤ R.length + n := by
      intro n
      induction n with
      | zero => intro h R; exact Nat.le_refl _
      | succ n ih =>
        intro h R
        have a := ih (h + 1) (stp (Q l ss) R h)
        have b := stp_len (Q l ss) R h
        show (scan (Q l ss) n (h + 1) (stp (Q l ss) R h)).length ≤ _
        omega
    have ln := len (hi + 1 - lo).toNat lo []
    obtain ⟨r', hr', ir⟩ := ifor_l0 (Q l ss) c lo _ _ hc.1 h0 (by omega) S (fun x hx => by
      have : ¬ InH l x := fun i => by have := (hin x).mpr i; omega
      unfold Q
      rw [inB_false this]
      rfl) (by simp at ln; omega) _ [] 0 (Int.le_refl _) rfl rfl (fun p hp => by cases hp)
    have e := hr.uniq hr'
    subst e
    refine ⟨r, ?_, ?_, fun h => ⟨ok, ?_⟩⟩
    · refine Ev.bind (sgood l hl) (Ev.pos a (Ev.bind (ssumps ss hs) (Ev.pos b (Ev.bindS (l1In_eq _ _ _) ?_))))
      rw [d]
      exact Ev.step (fun k => spec_OpenFor.j0.eq_2 l ss c _ k) (Ev.neg (by simp) sr)
    · refine Ev.bind (igood l hl) (Ev.pos a (Ev.bind (isumps ss hs) (Ev.pos b (Ev.bindS (within_eq _ _ _) ?_))))
      rw [d]
      exact Ev.step (fun k => impl_OpenFor.j0.eq_2 c _ l ss k) (Ev.neg (by simp) (Ev.bind hh (Ev.bind sp ir)))
    · rcases hr with ⟨_, h2, _⟩ | ⟨h2, _⟩
      · exact h2
      · rw [h2] at h; cases h
  · exact bad (by cases x : okFor l ss c <;> simp_all)
end Go.Proofs.Ytldifiededjgjaa.Pu
namespace Go.Proofs.Ytldifiededjgjaa.Pu
open Go.RowKit Go.Proofs.Ytldifiededjgjaa.P Go.Proofs.YtldifiededjgjaaW.PrintWords
def cv30 (x : S93) : S30 := ⟨x.f0, x.f1⟩
def cv44 (x : S38) : S44 := ⟨x.f0, x.f1, x.f2⟩
theorem set_mid {α : Type} (M : List α) (z y : α) (n : Nat) (i : Int) (hi : i = M.length) : (M ++ List.replicate (n + 1) z).set i.toNat y = (M ++ [y]) ++ List.replicate n z := by
  rw [hi, Int.toNat_natCast, List.set_append_right _ _ (Nat.le_refl _), Nat.sub_self, List.replicate_succ]
  simp
theorem to30_l0 (l : List S93) (hl : (l.length : Int) ≤ 1000000000000) : ∀ (L M : List S93) (i : Int), i = M.length → M ++ L = l → Ev (fun k => laws_toReadingS.l0 k l (M.map cv30 ++ List.replicate L.length z30) i) (l.map cv30) := by
  intro L
  induction L with
  | nil =>
    intro M i hi e
    rw [List.append_nil] at e
    subst e
    refine Ev.step (fun k => laws_toReadingS.l0.eq_2 _ _ i k) (Ev.neg (by omega) (Ev.to (Ev.now _) (by simp)))
  | cons s L ih =>
    intro M i hi e
    have len := congrArg List.length e
    simp at len
    have w : wrap64 (i + 1) = i + 1 := wr (by omega) (by omega)
    have rd0 : rd_T93 l i = s := by
      unfold rd_T93
      rw [← e, hi, Int.toNat_natCast]
      simp [List.getD_eq_getElem?_getD]
    refine Ev.step (fun k => laws_toReadingS.l0.eq_2 _ _ i k) (Ev.pos (by omega) (Ev.pos (by omega) (Ev.bindS rfl (Ev.pos (by simp; omega) ?_))))
    simp only [rd0, w, List.length_cons]
    rw [set_mid _ _ _ _ _ (by simp [hi])]
    have := ih (M ++ [s]) (i + 1) (by simp; omega) (by rw [← e]; simp)
    rw [List.map_append] at this
    exact this
theorem to30 (l : List S93) (hl : (l.length : Int) ≤ 1000000000000) : Ev (fun k => laws_toReadingS.f k l) (l.map cv30) := by
  unfold laws_toReadingS.f
  refine Ev.pos (by omega) (Ev.pos (by rw [Int.toNat_natCast]; omega) ?_)
  rw [Int.toNat_natCast]
  exact to30_l0 l hl l [] 0 rfl rfl
theorem to44_l0 (l : List S38) (hl : (l.length : Int) ≤ 1000000000000) : ∀ (L M : List S38) (i : Int), i = M.length → M ++ L = l → Ev (fun k => laws_toSumpS.l0 k l (M.map cv44 ++ List.replicate L.length z44) i) (l.map cv44) := by
  intro L
  induction L with
  | nil =>
    intro M i hi e
    rw [List.append_nil] at e
    subst e
    refine Ev.step (fun k => laws_toSumpS.l0.eq_2 _ _ i k) (Ev.neg (by omega) (Ev.to (Ev.now _) (by simp)))
  | cons s L ih =>
    intro M i hi e
    have len := congrArg List.length e
    simp at len
    have w : wrap64 (i + 1) = i + 1 := wr (by omega) (by omega)
    have rd0 : rd_T38 l i = s := by
      unfold rd_T38
      rw [← e, hi, Int.toNat_natCast]
      simp [List.getD_eq_getElem?_getD]
    refine Ev.step (fun k => laws_toSumpS.l0.eq_2 _ _ i k) (Ev.pos (by omega) (Ev.pos (by omega) (Ev.bindS rfl (Ev.pos (by simp; omega) ?_))))
    simp only [rd0, w, List.length_cons]
    rw [set_mid _ _ _ _ _ (by simp [hi])]
    have := ih (M ++ [s]) (i + 1) (by simp; omega) (by rw [← e]; simp)
    rw [List.map_append] at this
    exact this
theorem to44 (l : List S38) (hl : (l.length : Int) ≤ 1000000000000) : Ev (fun k => laws_toSumpS.f k l) (l.map cv44) := by
  unfold laws_toSumpS.f
  refine Ev.pos (by omega) (Ev.pos (by rw [Int.toNat_natCast]; omega) ?_)
  rw [Int.toNat_natCast]
  exact to44_l0 l hl l [] 0 rfl rfl
theorem eq30_l0 (l : List S30) (hl : (l.length : Int) ≤ 1000000000000) : ∀ (d : Nat) (i : Int), 0 ≤ i → (l.length : Int) - i = d → Ev (fun k => laws_eqReadingS.l0 k l l i) true := by
  intro d
  induction d with
  | zero => intro i h0 hd; exact Ev.step (fun k => laws_eqReadingS.l0.eq_2 l l i k) (Ev.neg (by omega) (Ev.now _))
  | succ d ih =>
    intro i h0 hd
    have w : wrap64 (i + 1) = i + 1 := wr (by omega) (by omega)
    refine Ev.step (fun k => laws_eqReadingS.l0.eq_2 l l i k) (Ev.pos (by omega) (Ev.pos h0 (Ev.pos (by omega) (Ev.bindS (a := true) ?_ (Ev.pos rfl ?_)))))
    · unfold laws_eqReading.f; simp
    · rw [w]; exact ih (i + 1) (by omega) (by omega)
theorem eq30 (l : List S30) (hl : (l.length : Int) ≤ 1000000000000) : Ev (fun k => laws_eqReadingS.f k l l) true := by
  unfold laws_eqReadingS.f
  exact Ev.pos rfl (eq30_l0 l hl l.length 0 (Int.le_refl _) (by omega))
theorem eq44_l0 (l : List S44) (hl : (l.length : Int) ≤ 1000000000000) : ∀ (d : Nat) (i : Int), 0 ≤ i → (l.length : Int) - i = d → Ev (fun k => laws_eqSumpS.l0 k l l i) true := by
  intro d
  induction d with
  | zero => intro i h0 hd; exact Ev.step (fun k => laws_eqSumpS.l0.eq_2 l l i k) (Ev.neg (by omega) (Ev.now _))
  | succ d ih =>
    intro i h0 hd
    have w : wrap64 (i + 1) = i + 1 := wr (by omega) (by omega)
    refine Ev.step (fun k => laws_eqSumpS.l0.eq_2 l l i k) (Ev.pos (by omega) (Ev.pos h0 (Ev.pos (by omega) (Ev.bindS (a := true) ?_ (Ev.pos rfl ?_)))))
    · unfold laws_eqSump.f; simp
    · rw [w]; exact ih (i + 1) (by omega) (by omega)
theorem eq44 (l : List S44) (hl : (l.length : Int) ≤ 1000000000000) : Ev (fun k => laws_eqSumpS.f k l l) true := by
  unfold laws_eqSumpS.f
  exact Ev.pos rfl (eq44_l0 l hl l.length 0 (Int.le_refl _) (by omega))
theorem FnExactOpenFor (l0 : List S93) (l1 : List S38) (c : Int) (h0 : (l0.length : Int) ≤ 1000000000000000) (h1 : (l1.length : Int) ≤ 1000000000000000) : ∃ k, laws_FnExactOpenFor.f k l0 l1 c = some true := by
  have key : Ev (fun k => laws_FnExactOpenFor.f k l0 l1 c) true := by
    unfold laws_FnExactOpenFor.f laws_szReadingS.f laws_szSumpS.f
    have e : wrap64 (1048576 - (l0.length : Int)) = 1048576 - (l0.length : Int) := wr (by omega) (by omega)
    rw [e]
    by_cases b0 : 1048576 - (l0.length : Int) < 0
    · rw [if_pos b0]
      exact Ev.someb (Ev.pos (by omega) (Ev.now _))
    rw [if_neg b0]
    refine Ev.someb (Ev.neg b0 ?_)
    have e' : wrap64 (1048576 - (l0.length : Int) - (l1.length : Int)) = 1048576 - (l0.length : Int) - (l1.length : Int) := wr (by omega) (by omega)
    rw [e']
    by_cases b1 : 1048576 - (l0.length : Int) - (l1.length : Int) < 0
    · rw [if_pos b1]
      exact Ev.someb (Ev.pos (by omega) (Ev.now _))
    rw [if_neg b1]
    refine Ev.someb (Ev.neg b1 ?_)
    have t0 := to30 l0 (by omega)
    have t1 := to44 l1 (by omega)
    have n0 : ((l0.map cv30).length : Int) ≤ 1000000000000 := by rw [List.length_map]; omega
    have n1 : ((l1.map cv44).length : Int) ≤ 1000000000000 := by rw [List.length_map]; omega
    obtain ⟨r, sr, ir, _⟩ := OpenFor_both (l0.map cv30) (l1.map cv44) c n0 n1
    refine Ev.bind t0 (Ev.bind t1 (Ev.bind sr (Ev.bind t0 (Ev.bind t1 (Ev.bind ir (Ev.pos rfl ?_))))))
    refine Ev.step (fun k => laws_FnExactOpenFor.j0.eq_2 l0 l1 _ _ _ k) (Ev.neg (by simp) (Ev.bind t0 (Ev.bind (eq30 _ n0) (Ev.pos rfl (Ev.bind t1 (Ev.bind (eq44 _ n1) (Ev.pos rfl (Ev.now _))))))))
  exact key.rounds
end Go.Proofs.Ytldifiededjgjaa.Pu
namespace Go.Proofs.Ytldifiededjgjaa.Opens
open Go.ChangeShapes Go.WideShapes Go.Deep Go.Proofs.YtldifiededjgjaaW.PrintWords
set_option linter.unusedVariables false
section
variable {H : Type} {enc : TypeId × Value → H} {P : Program} {w : World} {α β : Type}
def Opn (enc : TypeId × Value → H) (P : Program) (w : World) (t : TypeId) (d : Kd α) (ok : α → Prop) : Prop :=
  ∀ fuel cs x, DataW.trod enc P w 0 (fun _ => true) true fuel t cs = some x → ∃ y, d.K w y cs ∧ ok y
theorem op_int {t : TypeId} {k : IntKind} (h : P.underlying t = some (.int k)) : Opn enc P w t (Kd.int k) (fun n => (Lit.int k n).wf = true) := by
  intro fuel cs x hx
  obtain ⟨n, rfl, _, hw⟩ := DataW.trod_int h hx
  exact ⟨n, rfl, hw⟩
theorem op_bool {t : TypeId} (h : P.underlying t = some .bool) : Opn enc P w t Kd.bool (fun _ => True) := by
  intro fuel cs x hx
  obtain ⟨n, rfl, _⟩ := DataW.trod_bool h hx
  exact ⟨n, rfl, trivial⟩
theorem op_string {t : TypeId} (h : P.underlying t = some .string) : Opn enc P w t Kd.string (fun s => s.size ≤ maxLen) := by
  intro fuel cs x hx
  obtain ⟨n, rfl, _, hw⟩ := DataW.trod_string h hx
  exact ⟨n, rfl, hw⟩
theorem op_iso {t : TypeId} {d : Kd α} {ok : α → Prop} (h : Opn enc P w t d ok) (f : β → α) (g : α → β) (fg : ∀ x, f (g x) = x) : Opn enc P w t (Kd.iso d f) (fun y => ok (f y)) := by
  intro fuel cs x hx
  obtain ⟨y, hk, ho⟩ := h fuel cs x hx
  exact ⟨g y, by show d.K w (f (g y)) cs; rw [fg]; exact hk, by show ok (f (g y)); rw [fg]; exact ho⟩
theorem op_imp {t : TypeId} {d : Kd α} {ok ok' : α → Prop} (h : Opn enc P w t d ok) (f : ∀ y, ok y → ok' y) : Opn enc P w t d ok' := by
  intro fuel cs x hx
  obtain ⟨y, hk, ho⟩ := h fuel cs x hx
  exact ⟨y, hk, f y ho⟩
def OpnF (enc : TypeId × Value → H) (P : Program) (w : World) (fs : List Field) (off : Nat) (d : Kd α) (ok : α → Prop) : Prop :=
  ∀ (n : Nat) (cs : List Value), cs.length = d.sz → (∀ f ∈ fs, ∃ y, DataW.trod enc P w 0 (fun _ => true) true n f.type ((cs.drop (f.offset - off)).take (P.cellsOf f.type)) = some y) →
    (∀ f ∈ fs, off ≤ f.offset) → ∃ y, d.K w y cs ∧ ok y
theorem opf_one {f : Field} {off : Nat} {d : Kd α} {ok : α → Prop} (h : Opn enc P w f.type d ok) (ho : f.offset = off) (hz : P.cellsOf f.type = d.sz) : OpnF enc P w [f] off d ok := by
  intro n cs hl hf _
  obtain ⟨y, hy⟩ := hf f List.mem_cons_self
  rw [ho, Nat.sub_self, List.drop_zero, hz, ← hl, List.take_length] at hy
  exact h _ _ _ hy
theorem opf_cons {f : Field} {fs : List Field} {off : Nat} {a : Kd α} {b : Kd β} {oka : α → Prop} {okb : β → Prop} (h : Opn enc P w f.type a oka) (ho : f.offset = off) (hz : P.cellsOf f.type = a.sz) (r : OpnF enc P w fs (off + a.sz) b okb)
    (hfs : ∀ g ∈ fs, off + a.sz ≤ g.offset) : OpnF enc P w (f :: fs) off (Kd.pair a b) (fun y => oka y.1 ∧ okb y.2) := by
  intro n cs hl hf hoff
  have hl' : cs.length = a.sz + b.sz := hl
  obtain ⟨y, hy⟩ := hf f List.mem_cons_self
  rw [ho, Nat.sub_self, List.drop_zero, hz] at hy
  obtain ⟨y0, k0, o0⟩ := h _ _ _ hy
  obtain ⟨y1, k1, o1⟩ := r n (cs.drop a.sz) (by rw [List.length_drop]; omega) (fun g hg => by
    obtain ⟨z, hz⟩ := hf g (List.mem_cons_of_mem _ hg)
    have := hfs g hg
    refine ⟨z, ?_⟩
    rw [List.drop_drop, show a.sz + (g.offset - (off + a.sz)) = g.offset - off from by omega]
    exact hz) hfs
  exact ⟨(y0, y1), ⟨cs.take a.sz, cs.drop a.sz, (List.take_append_drop _ _).symm, k0, k1⟩, o0, o1⟩
theorem op_struct {t : TypeId} {fs : Array Field} {d : Kd α} {ok : α → Prop} (hs : P.underlying t = some (.struct fs)) (hz : P.cellsOf t = d.sz) (h : OpnF enc P w fs.toList 0 d ok) : Opn enc P w t d ok := by
  intro fuel cs x hx
  obtain ⟨xs, n, _, _, hlen, hxl, hf⟩ := DataW.trod_struct hs hx
  refine h n cs (by rw [hlen, hz]) (fun f hf' => ?_) (fun _ _ => Nat.zero_le _)
  obtain ⟨i, hi, rfl⟩ := List.getElem_of_mem hf'
  have hi' : i < fs.size := by simpa using hi
  have := hf i fs[i] (Array.getElem?_eq_getElem hi')
  rw [Nat.sub_zero]
  exact ⟨xs[i]'(by omega), by rw [List.getElem?_eq_getElem (by omega)] at this; simpa using this⟩
theorem max_le : maxLen ≤ 9223372036854775807 := by decide
theorem op_slice {t e : TypeId} {d : Kd α} {ok : α → Prop} (hs : P.underlying t = some (.slice e)) (hz : P.cellsOf e = d.sz) (h : Opn enc P w e d ok) : Opn enc P w t (Kd.slice e d) (fun ys => ys.length ≤ maxLen ∧ ∀ y ∈ ys, ok y) := by
  intro fuel cs x hx
  rcases open_slice hs hx with ⟨rfl, _⟩ | ⟨a, len, cap, m, n, D, Pl, rfl, _, hl, hm, hmm, _, hi⟩
  · exact ⟨[], ⟨none, 0, rfl, Nat.le_refl _, rfl, by simp, fun h => absurd h (by simp)⟩, Nat.zero_le _, fun y hy => by cases hy⟩
  · have hm' : m = cap := by simpa using hmm
    have key : ∀ i : Nat, i < len → ∃ y, ∃ c, c.length = d.sz ∧ d.K w y c ∧ ok y ∧ ∀ j u, c[j]? = some u → w.cell? (a.add (i * d.sz + j)) = some u := by
      intro i hil
      obtain ⟨c, hc, ht⟩ := hi i (by omega)
      obtain ⟨_, hcl, hat⟩ := World.cells?_some hc
      obtain ⟨y, hk, ho⟩ := h _ _ _ ht
      rw [hz] at hcl hat
      refine ⟨y, c, hcl, hk, ho, fun j u hu => ?_⟩
      have hj : j < d.sz := by rw [← hcl]; exact (List.getElem?_eq_some_iff.1 hu).1
      rw [← Go.Deep.add_add, hat j hj, hu]
    have mk : ∀ len : Nat, (∀ i : Nat, i < len → ∃ y, ∃ c, c.length = d.sz ∧ d.K w y c ∧ ok y ∧ ∀ j u, c[j]? = some u → w.cell? (a.add (i * d.sz + j)) = some u) → ∃ ys : List α, ys.length = len ∧ ∀ j y, ys[j]? = some y → ∃ c, c.length = d.sz ∧ d.K w y c ∧ ok y ∧ ∀ i u, c[i]? = some u → w.cell? (a.add (j * d.sz + i)) = some u := by
      intro len key
      induction len with
      | zero => exact ⟨[], rfl, fun j y hj => by simp at hj⟩
      | succ len ih =>
        obtain ⟨ys, hl, hy⟩ := ih (fun i hi => key i (by omega))
        obtain ⟨y, c, h1, h2, h3, h4⟩ := key len (by omega)
        refine ⟨ys ++ [y], by simp [hl], fun j z hj => ?_⟩
        by_cases hjl : j < len
        · rw [List.getElem?_append_left (by omega)] at hj
          exact hy j z hj
        · rw [List.getElem?_append_right (by omega)] at hj
          have : j = len := by
            have := (List.getElem?_eq_some_iff.1 hj).1
            simp at this
            omega
          subst this
          rw [hl, Nat.sub_self] at hj
          obtain rfl : y = z := by simpa using hj
          exact ⟨c, h1, h2, h3, h4⟩
    obtain ⟨ys, hlen, hys⟩ := mk len key
    refine ⟨ys, ⟨some a, cap, by rw [hlen], by omega, rfl, ?_, fun _ => ⟨a, rfl, fun j y hj => ?_⟩⟩, by omega, fun y hy => ?_⟩
    · have := max_le
      omega
    · obtain ⟨c, h1, h2, _, h4⟩ := hys j y hj
      exact ⟨c, h1, h2, h4⟩
    · obtain ⟨j, hj, rfl⟩ := List.getElem_of_mem hy
      obtain ⟨_, _, _, h3, _⟩ := hys j _ (List.getElem?_eq_getElem hj)
      exact h3
theorem sized_row {t e : TypeId} {a : Option Addr} {len cap : Nat} {d : DataW H} {ps : List MemPlace} {ts : List TypeId} {ds : List (DataW H)} {j : Nat}
    (hsz : (DataW.weightsEach P ts ds).all (· ≤ reachBytes) = true) (ht : ts[j]? = some t) (hd : ds[j]? = some d) (hu : P.underlying t = some (.slice e)) {B : Nat} (hB : P.bytesOf e = B)
    (h : DataW.Trod enc P w 0 (fun _ => true) true t (.slice a len cap) d ps) : len * B ≤ 140737488351232 := by
  obtain ⟨fuel, hf⟩ := h
  rcases DataW.trod_slice hu hf with ⟨hcs, _⟩ | ⟨x, l, c, elems, rest, n, _, hcs, hx, _, _, _, hl, _⟩
  · simp [Value.cells] at hcs
    obtain ⟨rfl, rfl, rfl⟩ := hcs
    simp
  · simp [Value.cells] at hcs
    obtain ⟨rfl, rfl, rfl⟩ := hcs
    obtain ⟨hx, _⟩ := Prod.mk.inj hx
    subst hx
    have z := sized_slice hsz ht hd hu
    rw [hB] at z
    have h1 : len ≤ (elems.map (·.1)).length + (rest.map (·.1)).length := by simp; omega
    exact Nat.le_trans (Nat.mul_le_mul_right _ h1) z
end
end Go.Proofs.Ytldifiededjgjaa.Opens
