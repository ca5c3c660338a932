/- A region of open order: the state after any set of its operations. -/
import Derived.Test.YtomjllcnpddiaaaGreatDoorRxDraw2
set_option linter.unusedSimpArgs false
set_option linter.unusedVariables false
set_option linter.unusedSectionVars false
namespace Go.Rx
open Go

/-- A renaming, below a name alone. -/
def cut (ρ : Ren) (m : Nat) : Ren := fun b => if b < m then ρ b else none
theorem cut_some {ρ : Ren} {m b : Nat} {v : View} (h : cut ρ m b = some v) : b < m ∧ ρ b = some v := by
  unfold cut at h
  split at h
  · exact ⟨‹_›, h⟩
  · cases h
theorem cut_lt {ρ : Ren} {m b : Nat} (h : b < m) : cut ρ m b = ρ b := by simp [cut, h]
theorem cut_ge {ρ : Ren} {m b : Nat} (h : m ≤ b) : cut ρ m b = none := by simp [cut]; omega
theorem cut_mono {ρ ρ' : Ren} {m m' : Nat} (hs : ∀ b v, b < m → ρ b = some v → ρ' b = some v) (hm : m ≤ m') : Sub (cut ρ m) (cut ρ' m') := by
  intro b v h
  obtain ⟨h1, h2⟩ := cut_some h
  rw [cut_lt (by omega)]
  exact hs b v h1 h2
theorem cut_sub (ρ : Ren) (m : Nat) : Sub (cut ρ m) ρ := fun _ _ h => (cut_some h).2

section
variable (S : Nat → St) (R : Nat → Rec1) (x : Nat → Prop)
open Classical in
/-- A name's entry, after the operations in 'x'; and below which name its values lie. -/
noncomputable def cur : Nat → Nat → Option Ent
  | 0, b => (S 0).h.get b
  | k + 1, b => if x k ∧ W (R k) b then (S (k + 1)).h.get b else cur k b
open Classical in
noncomputable def lev : Nat → Nat → Nat
  | 0, _ => (S 0).next
  | k + 1, b => if x k ∧ W (R k) b then (R k).hi else lev k b
open Classical in
/-- A temporary. -/
noncomputable def curT (T0 : List Value) (V : Nat → Value) (dst : Nat → Option Tmp) : Nat → Nat → Value
  | 0, t => nthD undef T0 t
  | k + 1, t => if x k ∧ dst k = some t then V k else curT T0 V dst k t
open Classical in
noncomputable def levT (dst : Nat → Option Tmp) : Nat → Nat → Nat
  | 0, _ => (S 0).next
  | k + 1, t => if x k ∧ dst k = some t then (R k).hi else levT dst k t
end

section
variable {S : Nat → St} {R : Nat → Rec1} {x : Nat → Prop} {T0 : List Value} {V : Nat → Value} {dst : Nat → Option Tmp}

theorem cur_pos {k b : Nat} (h : x k ∧ W (R k) b) : cur S R x (k + 1) b = (S (k + 1)).h.get b := if_pos h
theorem cur_neg {k b : Nat} (h : ¬ (x k ∧ W (R k) b)) : cur S R x (k + 1) b = cur S R x k b := if_neg h
theorem lev_pos {k b : Nat} (h : x k ∧ W (R k) b) : lev S R x (k + 1) b = (R k).hi := if_pos h
theorem lev_neg {k b : Nat} (h : ¬ (x k ∧ W (R k) b)) : lev S R x (k + 1) b = lev S R x k b := if_neg h
theorem curT_pos {k t : Nat} (h : x k ∧ dst k = some t) : curT x T0 V dst (k + 1) t = V k := if_pos h
theorem curT_neg {k t : Nat} (h : ¬ (x k ∧ dst k = some t)) : curT x T0 V dst (k + 1) t = curT x T0 V dst k t := if_neg h
theorem levT_pos {k t : Nat} (h : x k ∧ dst k = some t) : levT S R x dst (k + 1) t = (R k).hi := if_pos h
theorem levT_neg {k t : Nat} (h : ¬ (x k ∧ dst k = some t)) : levT S R x dst (k + 1) t = levT S R x dst k t := if_neg h

theorem cur_late {i b : Nat} : ∀ {n : Nat}, i ≤ n → (∀ j, i ≤ j → j < n → x j → ¬ W (R j) b) → cur S R x n b = cur S R x i b ∧ lev S R x n b = lev S R x i b := by
  intro n hn
  induction n with
  | zero => intro _; have : i = 0 := by omega
            subst this; exact ⟨rfl, rfl⟩
  | succ n ih =>
    intro h
    by_cases he : i = n + 1
    · subst he; exact ⟨rfl, rfl⟩
    · have h1 : ¬ (x n ∧ W (R n) b) := fun hh => h n (by omega) (by omega) hh.1 hh.2
      obtain ⟨h2, h3⟩ := ih (by omega) fun j hj hj' => h j hj (by omega)
      exact ⟨by rw [cur_neg h1, h2], by rw [lev_neg h1, h3]⟩
theorem curT_late {i t : Nat} : ∀ {n : Nat}, i ≤ n → (∀ j, i ≤ j → j < n → x j → dst j ≠ some t) → curT x T0 V dst n t = curT x T0 V dst i t ∧ levT S R x dst n t = levT S R x dst i t := by
  intro n hn
  induction n with
  | zero => intro _; have : i = 0 := by omega
            subst this; exact ⟨rfl, rfl⟩
  | succ n ih =>
    intro h
    by_cases he : i = n + 1
    · subst he; exact ⟨rfl, rfl⟩
    · have h1 : ¬ (x n ∧ dst n = some t) := fun hh => h n (by omega) (by omega) hh.1 hh.2
      obtain ⟨h2, h3⟩ := ih (by omega) fun j hj hj' => h j hj (by omega)
      exact ⟨by rw [curT_neg h1, h2], by rw [levT_neg h1, h3]⟩

/-- An operation writes nothing but what it says, and its names go on. -/
def Loc (S : Nat → St) (R : Nat → Rec1) (j : Nat) : Prop := (S j).next ≤ (S (j + 1)).next ∧ ∀ b, ¬ W (R j) b → (S (j + 1)).h.get b = (S j).h.get b

theorem next_mono {m : Nat} (h : ∀ j, j < m → Loc S R j) {i j : Nat} (hij : i ≤ j) (hj : j ≤ m) : (S i).next ≤ (S j).next := by
  induction j with
  | zero => have : i = 0 := by omega
            subst this; exact Nat.le_refl _
  | succ j ih =>
    by_cases he : i = j + 1
    · subst he; exact Nat.le_refl _
    · exact Nat.le_trans (ih (by omega) (by omega)) (h j (by omega)).1

theorem cur_low {i b : Nat} (hhi : ∀ j, j < i → (R j).hi = (S (j + 1)).next) (hloc : ∀ j, j < i → Loc S R j) (h : ∀ j, j < i → W (R j) b → x j) :
    cur S R x i b = (S i).h.get b ∧ lev S R x i b ≤ (S i).next := by
  induction i with
  | zero => exact ⟨rfl, Nat.le_refl _⟩
  | succ i ih =>
    obtain ⟨h1, h2⟩ := ih (fun j hj => hhi j (by omega)) (fun j hj => hloc j (by omega)) fun j hj => h j (by omega)
    obtain ⟨h3, h4⟩ := hloc i (by omega)
    by_cases hw : W (R i) b
    · rw [cur_pos ⟨h i (by omega) hw, hw⟩, lev_pos ⟨h i (by omega) hw, hw⟩]
      exact ⟨rfl, Nat.le_of_eq (hhi i (by omega))⟩
    · rw [cur_neg fun hh => hw hh.2, lev_neg fun hh => hw hh.2, h1]
      exact ⟨(h4 b hw).symm, Nat.le_trans h2 h3⟩

theorem cur_add_other {i b : Nat} (hw : ¬ W (R i) b) : ∀ n, cur S R (fun k => x k ∨ k = i) n b = cur S R x n b ∧ lev S R (fun k => x k ∨ k = i) n b = lev S R x n b := by
  intro n
  induction n with
  | zero => exact ⟨rfl, rfl⟩
  | succ n ih =>
    have : ((x n ∨ n = i) ∧ W (R n) b) ↔ (x n ∧ W (R n) b) := by
      constructor
      · rintro ⟨h1 | h1, h2⟩
        · exact ⟨h1, h2⟩
        · subst h1; exact absurd h2 hw
      · rintro ⟨h1, h2⟩; exact ⟨.inl h1, h2⟩
    by_cases hh : x n ∧ W (R n) b
    · rw [cur_pos hh, lev_pos hh, cur_pos (this.2 hh), lev_pos (this.2 hh)]; exact ⟨rfl, rfl⟩
    · rw [cur_neg hh, lev_neg hh, cur_neg fun k => hh (this.1 k), lev_neg fun k => hh (this.1 k)]; exact ih
theorem cur_add {i n b : Nat} (hi : i < n) (hw : W (R i) b) (h : ∀ j, i < j → j < n → x j → ¬ W (R j) b) :
    cur S R (fun k => x k ∨ k = i) n b = (S (i + 1)).h.get b ∧ lev S R (fun k => x k ∨ k = i) n b = (R i).hi := by
  obtain ⟨h1, h2⟩ := cur_late (S := S) (R := R) (x := fun k => x k ∨ k = i) (b := b) (i := i + 1) (n := n) hi fun j hj hj' hx => by
    rcases hx with hx | hx
    · exact h j (by omega) hj' hx
    · omega
  rw [h1, h2, cur_pos ⟨.inr rfl, hw⟩, lev_pos ⟨.inr rfl, hw⟩]
  exact ⟨rfl, rfl⟩
theorem curT_add_other {i t : Nat} (hw : dst i ≠ some t) : ∀ n, curT (fun k => x k ∨ k = i) T0 V dst n t = curT x T0 V dst n t ∧ levT S R (fun k => x k ∨ k = i) dst n t = levT S R x dst n t := by
  intro n
  induction n with
  | zero => exact ⟨rfl, rfl⟩
  | succ n ih =>
    have : ((x n ∨ n = i) ∧ dst n = some t) ↔ (x n ∧ dst n = some t) := by
      constructor
      · rintro ⟨h1 | h1, h2⟩
        · exact ⟨h1, h2⟩
        · subst h1; exact absurd h2 hw
      · rintro ⟨h1, h2⟩; exact ⟨.inl h1, h2⟩
    by_cases hh : x n ∧ dst n = some t
    · rw [curT_pos hh, levT_pos hh, curT_pos (this.2 hh), levT_pos (this.2 hh)]; exact ⟨rfl, rfl⟩
    · rw [curT_neg hh, levT_neg hh, curT_neg fun k => hh (this.1 k), levT_neg fun k => hh (this.1 k)]; exact ih
theorem curT_add {i n t : Nat} (hi : i < n) (hw : dst i = some t) (h : ∀ j, i < j → j < n → x j → dst j ≠ some t) :
    curT (fun k => x k ∨ k = i) T0 V dst n t = V i ∧ levT S R (fun k => x k ∨ k = i) dst n t = (R i).hi := by
  obtain ⟨h1, h2⟩ := curT_late (S := S) (R := R) (x := fun k => x k ∨ k = i) (T0 := T0) (V := V) (dst := dst) (t := t) (i := i + 1) (n := n) hi fun j hj hj' hx => by
    rcases hx with hx | hx
    · exact h j (by omega) hj' hx
    · omega
  rw [h1, h2, curT_pos ⟨.inr rfl, hw⟩, levT_pos ⟨.inr rfl, hw⟩]
  exact ⟨rfl, rfl⟩

/-- The evaluator's own temporaries, as they come. -/
theorem putT_at {tm : List Value} {d : Option Tmp} {v : Value} {t : Nat} (ht : t < tm.length) : (putT tm d v).length = tm.length ∧ nthD undef (putT tm d v) t = if d = some t then v else nthD undef tm t := by
  cases d with
  | none => exact ⟨rfl, by simp [putT]⟩
  | some d =>
    show (setn v tm d).length = _ ∧ nthD undef (setn v tm d) t = _
    rw [setn_eq]
    refine ⟨by simp, ?_⟩
    rw [nthD_eq, nthD_eq]
    by_cases h : d = t
    · subst h; simp [ht]
    · rw [if_neg (by simpa using h), List.getElem?_set_ne h]
theorem putT_len (tm : List Value) (d : Option Tmp) (v : Value) : (putT tm d v).length = tm.length := by
  cases d with
  | none => rfl
  | some d => show (setn v tm d).length = _; rw [setn_eq]; simp
theorem T_len {T : Nat → List Value} {n : Nat} (h : ∀ j, j < n → T (j + 1) = putT (T j) (dst j) (V j)) : ∀ i, i ≤ n → (T i).length = (T 0).length := by
  intro i
  induction i with
  | zero => intro _; rfl
  | succ i ih => intro hi; rw [h i (by omega), putT_len, ih (by omega)]
theorem curT_low {T : Nat → List Value} {n : Nat} (hT : ∀ j, j < n → T (j + 1) = putT (T j) (dst j) (V j)) {t : Nat} (ht : t < (T 0).length) (hhi : ∀ j, j < n → (R j).hi = (S (j + 1)).next) :
    ∀ {i : Nat}, i ≤ n → (∀ j, j < i → (S j).next ≤ (S (j + 1)).next) → (∀ j, j < i → dst j = some t → x j) → curT x (T 0) V dst i t = nthD undef (T i) t ∧ levT S R x dst i t ≤ (S i).next := by
  intro i
  induction i with
  | zero => intro _ _ _; exact ⟨rfl, Nat.le_refl _⟩
  | succ i ih =>
    intro hi hmono h
    obtain ⟨h1, h2⟩ := ih (by omega) (fun j hj => hmono j (by omega)) fun j hj => h j (by omega)
    have hl := T_len hT i (by omega)
    have hp := (putT_at (tm := T i) (d := dst i) (v := V i) (t := t) (by omega)).2
    rw [hT i (by omega), hp]
    by_cases hw : dst i = some t
    · rw [curT_pos ⟨h i (by omega) hw, hw⟩, levT_pos ⟨h i (by omega) hw, hw⟩, if_pos hw]
      exact ⟨rfl, Nat.le_of_eq (hhi i (by omega))⟩
    · rw [curT_neg fun hh => hw hh.2, levT_neg fun hh => hw hh.2, if_neg hw]
      exact ⟨h1, Nat.le_trans h2 (hmono i (by omega))⟩
end

/-! ### What holds after a set of operations -/
structure Inv (n : Nat) (S : Nat → St) (R : Nat → Rec1) (T0 : List Value) (V : Nat → Value) (dst : Nat → Option Tmp) (ρ0 : Ren) (w0 : World) (x : Nat → Prop) (ρ : Ren) (w : World) (tmps : List Value) : Prop where
  live : ∀ b e, cur S R x n b = some e → ∃ v o, ρ b = some v ∧ b < lev S R x n b ∧ w.heap[v.blk]? = some o ∧ OR (cut ρ (lev S R x n b)) v e o
  inj : ∀ b b' e e' v v', cur S R x n b = some e → cur S R x n b' = some e' → ρ b = some v → ρ b' = some v' → v.blk = v'.blk → b = b'
  ren : ∀ b, b < (S 0).next → ρ b = ρ0 b
  fresh : ∀ b, (S 0).next ≤ b → (∀ k, k < n → x k → ¬ ((R k).lo ≤ b ∧ b < (R k).hi)) → ρ b = none
  size : w0.heap.size ≤ w.heap.size
  os : w.os = w0.os
  tape : w.tape = w0.tape
  output : w.output = w0.output
  same : ∀ k, k < w0.heap.size → (∀ j, j < n → x j → ∀ b ∈ (R j).log, ∀ e v, (S 0).h.get b = some e → ρ0 b = some v → v.blk ≠ k) → w.heap[k]? = w0.heap[k]?
  img : ∀ b' e' v', cur S R x n b' = some e' → ρ b' = some v' → v'.blk < w0.heap.size → ∃ b e v, (S 0).h.get b = some e ∧ ρ0 b = some v ∧ v.blk = v'.blk ∧ (b' = b ∨ ∃ j, j < n ∧ x j ∧ b ∈ (R j).log)
  tlen : tmps.length = T0.length
  tm : ∀ t, t < T0.length → ∃ v', tmps[t]? = some v' ∧ VR (cut ρ (levT S R x dst n t)) (curT x T0 V dst n t) v'

theorem cur_none {S : Nat → St} {R : Nat → Rec1} {x : Nat → Prop} (hx : ∀ k, ¬ x k) (n b : Nat) : cur S R x n b = (S 0).h.get b ∧ lev S R x n b = (S 0).next :=
  cur_late (Nat.zero_le n) fun j _ _ hj => absurd hj (hx j)
theorem curT_none {S : Nat → St} {R : Nat → Rec1} {x : Nat → Prop} {T0 : List Value} {V : Nat → Value} {dst : Nat → Option Tmp} (hx : ∀ k, ¬ x k) (n t : Nat) :
    curT x T0 V dst n t = nthD undef T0 t ∧ levT S R x dst n t = (S 0).next :=
  curT_late (Nat.zero_le n) fun j _ _ hj => absurd hj (hx j)

theorem Inv.start {G n : Nat} {S : Nat → St} {R : Nat → Rec1} {T0 : List Value} {V : Nat → Value} {dst : Nat → Option Tmp} {ρ0 : Ren} {w0 : World} {tmps : List Value} {x : Nat → Prop} (hx : ∀ k, ¬ x k)
    (hr : Rep G ρ0 (S 0) w0) (hv : VL ρ0 T0 tmps) (d : Nat) : Inv n S R T0 V dst ρ0 w0 x ρ0 { w0 with drawn := d } tmps where
  live b e h := by
    rw [(cur_none hx n b).1] at h
    rw [(cur_none hx n b).2]
    obtain ⟨v, o, h1, h2, h3⟩ := hr.live b e h
    refine ⟨v, o, h1, hr.lt h, h2, h3.mono fun b' v' h' => ?_⟩
    rw [cut_lt]
    · exact h'
    · rcases Nat.lt_or_ge b' (S 0).next with h4 | h4
      · exact h4
      · rw [hr.fresh b' h4] at h'; cases h'
  inj b b' e e' v v' h h' := by
    rw [(cur_none hx n b).1] at h
    rw [(cur_none hx n b').1] at h'
    exact hr.inj b b' e e' v v' h h'
  ren b _ := rfl
  fresh b hb _ := hr.fresh b hb
  size := Nat.le_refl _
  os := rfl
  tape := rfl
  output := rfl
  same k _ _ := rfl
  img b' e' v' h h1 _ := by
    rw [(cur_none hx n b').1] at h
    exact ⟨b', e', v', h, h1, rfl, .inl rfl⟩
  tlen := hv.length.symm
  tm t ht := by
    rw [(curT_none (S := S) (R := R) hx n t).1, (curT_none (T0 := T0) (V := V) hx n t).2]
    have h1 : T0[t]? = some T0[t] := List.getElem?_eq_getElem ht
    obtain ⟨v', h2, h3⟩ := hv.get h1
    refine ⟨v', h2, ?_⟩
    rw [nthD_eq, h1]
    refine h3.mono fun b' v' h' => ?_
    rw [cut_lt]
    · exact h'
    · rcases Nat.lt_or_ge b' (S 0).next with h4 | h4
      · exact h4
      · rw [hr.fresh b' h4] at h'; cases h'

/-- At the end. -/
theorem Inv.finish {G n : Nat} {S : Nat → St} {R : Nat → Rec1} {T : Nat → List Value} {V : Nat → Value} {dst : Nat → Option Tmp} {ρ0 ρ : Ren} {w0 w : World} {tmps : List Value} {x : Nat → Prop} (hx : ∀ k, k < n → x k)
    (hr : Rep G ρ0 (S 0) w0) (h : Inv n S R (T 0) V dst ρ0 w0 x ρ w tmps) (hhi : ∀ j, j < n → (R j).hi = (S (j + 1)).next) (hlo : ∀ j, j < n → (R j).lo = (S j).next) (hloc : ∀ j, j < n → Loc S R j)
    (hT : ∀ j, j < n → T (j + 1) = putT (T j) (dst j) (V j)) (hlog : ∀ j, j < n → (S (j + 1)).log = (R j).log ++ (S j).log) :
    ∃ l, VL ρ (T n) tmps ∧ Rep G ρ (S n) w ∧ Ext ρ0 (S 0) w0 ρ (S n) w l := by
  have hcur : ∀ b, cur S R x n b = (S n).h.get b ∧ lev S R x n b ≤ (S n).next := fun b => cur_low hhi hloc fun j hj _ => hx j hj
  have hmono : ∀ j, j < n → (S j).next ≤ (S (j + 1)).next := fun j hj => (hloc j hj).1
  -- all that has been written
  have logs : ∀ m, m ≤ n → ∃ l, (S m).log = l ++ (S 0).log ∧ (∀ b, b ∈ l ↔ ∃ j, j < m ∧ b ∈ (R j).log) := by
    intro m
    induction m with
    | zero => intro _; exact ⟨[], rfl, fun b => ⟨fun hb => (by cases hb), fun ⟨j, hj, _⟩ => absurd hj (Nat.not_lt_zero j)⟩⟩
    | succ m ih =>
      intro hm
      obtain ⟨l, h1, h2⟩ := ih (by omega)
      refine ⟨(R m).log ++ l, by rw [hlog m (by omega), h1, List.append_assoc], fun b => ?_⟩
      rw [List.mem_append, h2]
      constructor
      · rintro (hb | ⟨j, hj, hb⟩)
        · exact ⟨m, by omega, hb⟩
        · exact ⟨j, by omega, hb⟩
      · rintro ⟨j, hj, hb⟩
        by_cases he : j = m
        · subst he; exact .inl hb
        · exact .inr ⟨j, by omega, hb⟩
  obtain ⟨l, hl1, hl2⟩ := logs n (Nat.le_refl _)
  have hnext := next_mono hloc (Nat.zero_le n) (Nat.le_refl n)
  refine ⟨l, ?_, ?_, ?_⟩
  · refine VL.of_get ?_ ?_
    · rw [T_len hT n (Nat.le_refl _)]; exact h.tlen.symm
    · intro t v v' hv hv'
      have ht : t < (T 0).length := by rw [← T_len hT n (Nat.le_refl _)]; exact (List.getElem?_eq_some_iff.1 hv).1
      obtain ⟨u, h1, h2⟩ := h.tm t ht
      rw [h1] at hv'; cases hv'
      obtain ⟨h3, _⟩ := curT_low (S := S) (R := R) (x := x) hT ht hhi (Nat.le_refl n) hmono fun j hj _ => hx j hj
      rw [h3, nthD_eq, hv] at h2
      exact h2.mono (cut_sub _ _)
  · refine ⟨?_, ?_, ?_, ?_, Nat.le_trans hr.within hnext⟩
    · intro b e hb
      rw [← (hcur b).1] at hb
      obtain ⟨v, o, h1, _, h2, h3⟩ := h.live b e hb
      exact ⟨v, o, h1, h2, h3.mono (cut_sub _ _)⟩
    · intro b b' e e' v v' hb hb'
      rw [← (hcur b).1] at hb
      rw [← (hcur b').1] at hb'
      exact h.inj b b' e e' v v' hb hb'
    · intro b hb
      refine h.fresh b (by omega) fun k hk _ hh => ?_
      have := next_mono hloc (show k + 1 ≤ n from hk) (Nat.le_refl n)
      rw [hhi k hk] at hh
      omega
    · intro g hg
      obtain ⟨u, h1, h2⟩ := hr.glob g hg
      exact ⟨u, by rw [h.ren g (by have := hr.within; omega)]; exact h1, h2⟩
  · refine ⟨h.ren, hnext, hl1, ?_, h.size, h.os, h.tape, h.output, ?_, ?_⟩
    · intro b hb hb'
      have : ∀ m, m ≤ n → (S m).h.get b = (S 0).h.get b := by
        intro m
        induction m with
        | zero => intro _; rfl
        | succ m ih =>
          intro hm
          rw [(hloc m (by omega)).2 b, ih (by omega)]
          rintro (hw | hw)
          · exact hb ((hl2 b).2 ⟨m, by omega, hw⟩)
          · rw [hlo m (by omega), hhi m (by omega)] at hw
            have h1 := next_mono hloc (Nat.zero_le m) (by omega)
            have h2 := next_mono hloc hm (Nat.le_refl n)
            omega
      exact this n (Nat.le_refl _)
    · intro k hk hh
      exact h.same k hk fun j hj _ b hb => hh b ((hl2 b).2 ⟨j, hj, hb⟩)
    · intro b' e' v' hb' hv' hlt
      rw [← (hcur b').1] at hb'
      obtain ⟨b, e, v, h1, h2, h3, h4⟩ := h.img b' e' v' hb' hv' hlt
      refine ⟨b, e, v, h1, h2, h3, h4.imp id ?_⟩
      rintro ⟨j, hj, _, hb⟩
      exact (hl2 b).2 ⟨j, hj, hb⟩
end Go.Rx
