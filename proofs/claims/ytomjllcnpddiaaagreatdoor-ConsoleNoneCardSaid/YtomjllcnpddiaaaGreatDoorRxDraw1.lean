/- A region of open order: the pure parts. -/
import Derived.Test.YtomjllcnpddiaaaGreatDoorRxMach
import Derived.Orders
set_option linter.unusedSimpArgs false
set_option linter.unusedVariables false
set_option linter.unusedSectionVars false
namespace Go.Rx
open Go

/-! ### Lists of names -/
theorem hasN_iff (n : Nat) (l : List Nat) : hasN n l = true ↔ n ∈ l := by
  induction l with
  | nil => simp [hasN]
  | cons a l ih =>
    show sel (Nat.beq n a) true (hasN n l) = true ↔ _
    by_cases h : n = a
    · subst h; rw [beq_of rfl, sel_true]; simp
    · rw [beq_ne h, sel_false, ih]; simp [h]
theorem restrict_get (h : PT Ent) (l : List Nat) (b : Nat) : (restrict h l).get b = if b ∈ l then h.get b else none := by
  induction l with
  | nil => simp [restrict, PT.get_leaf]
  | cons n l ih =>
    show ((restrict h l).set n (h.get n)).get b = _
    rw [PT.get_set, ih]
    by_cases e : b = n
    · subst e; simp
    · simp [e]
theorem merge_get (h h' : PT Ent) (l : List Nat) (b : Nat) : (merge h h' l).get b = if b ∈ l then h'.get b else h.get b := by
  induction l with
  | nil => simp [merge]
  | cons n l ih =>
    show ((merge h h' l).set n (h'.get n)).get b = _
    rw [PT.get_set, ih]
    by_cases e : b = n
    · subst e; simp
    · simp [e]
theorem mem_upto (lo n b : Nat) : b ∈ upto lo n ↔ lo ≤ b ∧ b < lo + n := by
  induction n generalizing lo with
  | zero => simp [upto]
  | succ n ih =>
    show b ∈ lo :: upto (lo + 1) n ↔ _
    rw [List.mem_cons, ih]
    omega

/-- What an operation has written or made. -/
def W (r : Rec1) (b : Nat) : Prop := b ∈ r.log ∨ (r.lo ≤ b ∧ b < r.hi)
/-- What an operation may have looked at. -/
def InDom (r : Rec1) (b : Nat) : Prop := ∀ l, r.dom = some l → b ∈ l

theorem touches_dom {r me : Rec1} (h : touches r me.dom = false) {b : Nat} (hb : InDom me b) : ¬ W r b := by
  unfold touches at h
  split at h
  · simp at h
    intro hw
    rcases hw with hw | hw
    · rw [h.1] at hw; cases hw
    · have := h.2; omega
  · rename_i l hl
    have hm := hb l hl
    rw [List.any_eq_false] at h
    have := h b hm
    intro hw
    apply this
    rcases hw with hw | hw
    · rw [(hasN_iff b r.log).2 hw]; rfl
    · rw [Nat.ble_eq_true_of_le hw.1]
      have : Nat.blt b r.hi = true := Nat.ble_eq_true_of_le hw.2
      rw [this]; simp
theorem touches_log {r me : Rec1} (h : touches r (some me.log) = false) {b : Nat} (hb : b ∈ me.log) : ¬ W r b := by
  intro hw
  rw [touches, List.any_eq_false] at h
  apply h b hb
  rcases hw with hw | hw
  · rw [(hasN_iff b r.log).2 hw]; rfl
  · rw [Nat.ble_eq_true_of_le hw.1]
    have : Nat.blt b r.hi = true := Nat.ble_eq_true_of_le hw.2
    rw [this]; simp

/-- Two operations that touch nothing of each other's. -/
structure Free (r me : Rec1) : Prop where
  dom : ∀ b, InDom me b → ¬ W r b
  dom' : ∀ b, InDom r b → ¬ W me b
  log : ∀ b, b ∈ me.log → ¬ W r b
  log' : ∀ b, b ∈ r.log → ¬ W me b

theorem clear_at {me : Rec1} : ∀ {l : List Rec1} {j : Nat}, clear me j l = true → ∀ (i : Nat) r, l[i]? = some r → me.mask.testBit (j + i) = true ∨ Free r me := by
  intro l
  induction l with
  | nil => intro j _ i r h; simp at h
  | cons r0 l ih =>
    intro j h i r hi
    simp only [clear, Bool.and_eq_true, Bool.or_eq_true, Bool.not_eq_true'] at h
    obtain ⟨h1, h2⟩ := h
    cases i with
    | zero =>
      simp at hi; subst hi
      rcases h1 with h1 | ⟨⟨⟨h1, h3⟩, h4⟩, h5⟩
      · exact .inl h1
      · exact .inr ⟨fun b => touches_dom h1, fun b => touches_dom h3, fun b => touches_log h4, fun b => touches_log h5⟩
    | succ i =>
      have := ih h2 i r (by simpa using hi)
      rw [show j + (i + 1) = j + 1 + i by omega]
      exact this

/-! ### Masks -/
theorem maskFold (acc : List Nat) (j : Nat) : ∀ (es : List Edge) (m : Nat), (es.foldl (fun m e => if Region.binds .any e then m ||| 2 ^ e.on ||| nthD 0 acc e.on else m) m).testBit j = true →
    m.testBit j = true ∨ ∃ e ∈ es, Region.binds .any e = true ∧ (e.on = j ∨ (nthD 0 acc e.on).testBit j = true) := by
  intro es
  induction es with
  | nil => intro m h; exact .inl h
  | cons e es ih =>
    intro m h
    rw [List.foldl_cons] at h
    rcases ih _ h with h1 | ⟨e', h1, h2⟩
    · by_cases hb : Region.binds .any e = true
      · rw [if_pos hb] at h1
        rw [Nat.testBit_or, Nat.testBit_or] at h1
        simp only [Bool.or_eq_true] at h1
        rcases h1 with (h1 | h1) | h1
        · exact .inl h1
        · right
          refine ⟨e, by simp, hb, .inl ?_⟩
          rw [Nat.testBit_two_pow] at h1
          simpa using h1
        · exact .inr ⟨e, by simp, hb, .inr h1⟩
      · rw [if_neg hb] at h1
        exact .inl h1
    · exact .inr ⟨e', by simp [h1], h2⟩

theorem masks_length : ∀ (l : List Oper) (acc : List Nat), (masks acc l).length = acc.length + l.length := by
  intro l
  induction l with
  | nil => intro acc; simp [masks]
  | cons o l ih => intro acc; rw [masks, ih]; simp; omega
theorem masks_prefix : ∀ (l : List Oper) (acc : List Nat) (i : Nat), i < acc.length → nthD 0 (masks acc l) i = nthD 0 acc i := by
  intro l
  induction l with
  | nil => intro acc i _; rfl
  | cons o l ih =>
    intro acc i h
    rw [masks, ih _ _ (by simp; omega), nthD_eq, nthD_eq, List.getElem?_append_left h]
theorem masks_at : ∀ (l : List Oper) (acc : List Nat) (i : Nat) (o : Oper), l[i]? = some o →
    ∃ acc' : List Nat, acc'.length = acc.length + i ∧ nthD 0 (masks acc l) (acc.length + i) = maskOf acc' o ∧ ∀ k, k < acc'.length → nthD 0 acc' k = nthD 0 (masks acc l) k := by
  intro l
  induction l with
  | nil => intro acc i o h; simp at h
  | cons p l ih =>
    intro acc i o h
    cases i with
    | zero =>
      simp at h; subst h
      refine ⟨acc, rfl, ?_, fun k hk => (masks_prefix _ _ _ hk).symm⟩
      rw [masks, masks_prefix _ _ _ (by simp), nthD_eq]
      simp
    | succ i =>
      obtain ⟨acc', h1, h2, h3⟩ := ih (acc ++ [maskOf acc p]) i o (by simpa using h)
      simp only [List.length_append, List.length_cons, List.length_nil] at h1 h2
      refine ⟨acc', by omega, ?_, ?_⟩
      · rw [masks, show acc.length + (i + 1) = acc.length + (0 + 1) + i by omega]
        exact h2
      · rw [masks]; exact h3

/-- What an operation waits for, directly or not. -/
def Need (ops : List Oper) (i j : Nat) : Prop := (nthD 0 (masks [] ops) i).testBit j = true
theorem need_of {ops : List Oper} {i j : Nat} {o : Oper} (ho : ops[i]? = some o) (hb : ∀ e ∈ o.after.toList, Region.binds .any e = true → e.on < i) (h : Need ops i j) :
    ∃ e ∈ o.after.toList, Region.binds .any e = true ∧ (e.on = j ∨ Need ops e.on j) := by
  obtain ⟨acc', h1, h2, h3⟩ := masks_at ops [] i o ho
  simp only [List.length_nil, Nat.zero_add] at h1 h2
  unfold Need at h
  rw [h2] at h
  rcases maskFold acc' j o.after.toList 0 h with h4 | ⟨e, h4, h5, h6⟩
  · simp at h4
  · refine ⟨e, h4, h5, ?_⟩
    rcases h6 with h6 | h6
    · exact .inl h6
    · right
      have := hb e h4 h5
      rw [h3 _ (by omega)] at h6
      exact h6

/-! ### Edges, temporaries -/
theorem edgesOk_at : ∀ (l : List Oper) (n : Nat), edgesOk n l = true → ∀ i o, l[i]? = some o → ∀ e ∈ o.after.toList, Region.binds .any e = true → e.on < n + i := by
  intro l
  induction l with
  | nil => intro n _ i o h; simp at h
  | cons p l ih =>
    intro n h i o hi e he hb
    simp only [edgesOk, Bool.and_eq_true] at h
    cases i with
    | zero =>
      simp at hi; subst hi
      have := h.1
      rw [List.all_eq_true] at this
      have := this e he
      rw [hb] at this
      simp at this
      omega
    | succ i =>
      have := ih (n + 1) h.2 i o (by simpa using hi) e he hb
      omega
theorem apartAll_at {ops : List Oper} {m : Nat} {o : Oper} : ∀ (l : List Oper) (j : Nat), apartAll ops m o j l = true → ∀ i p, l[i]? = some p → m.testBit (j + i) = true ∨ apart1 ops o p = true := by
  intro l
  induction l with
  | nil => intro j _ i p h; simp at h
  | cons q l ih =>
    intro j h i p hi
    simp only [apartAll, Bool.and_eq_true, Bool.or_eq_true] at h
    cases i with
    | zero => simp at hi; subst hi; exact h.1
    | succ i =>
      have := ih (j + 1) h.2 i p (by simpa using hi)
      rw [show j + (i + 1) = j + 1 + i by omega]
      exact this
theorem tmpsOkGo_at {ops : List Oper} {ms : List Nat} : ∀ (l before : List Oper), tmpsOkGo ops ms before l = true → ∀ i o, l[i]? = some o → ∀ j p, (before ++ l)[j]? = some p → j < before.length + i →
    (nthD 0 ms (before.length + i)).testBit j = true ∨ apart1 ops o p = true := by
  intro l
  induction l with
  | nil => intro before _ i o h; simp at h
  | cons q l ih =>
    intro before h i o hi j p hj hlt
    simp only [tmpsOkGo, Bool.and_eq_true] at h
    cases i with
    | zero =>
      simp at hi; subst hi
      simp only [Nat.add_zero] at hlt ⊢
      rw [List.getElem?_append_left hlt] at hj
      have := apartAll_at before 0 h.1 j p hj
      simpa using this
    | succ i =>
      have := ih (before ++ [q]) h.2 i o (by simpa using hi) j p (by simpa using hj) (by simp; omega)
      simpa [Nat.add_assoc, Nat.add_comm 1 i] using this

/-- Two operations whose temporaries are apart. -/
structure Apart (ops : List Oper) (a b : Oper) : Prop where
  one : ∀ d, a.dst = some d → d ∉ tmpsOf ops b ∧ b.dst ≠ some d
  two : ∀ d, b.dst = some d → d ∉ tmpsOf ops a
theorem apart_of {ops : List Oper} {a b : Oper} (h : apart1 ops a b = true) : Apart ops a b := by
  unfold apart1 at h
  rw [Bool.and_eq_true] at h
  refine ⟨fun d hd => ?_, fun d hd => ?_⟩
  · have h1 := h.1
    rw [hd] at h1
    simp at h1
    refine ⟨fun hm => ?_, h1.2⟩
    rw [(hasN_iff d _).2 hm] at h1
    exact absurd h1.1 (by simp)
  · have h2 := h.2
    rw [hd] at h2
    simp at h2
    intro hm
    rw [(hasN_iff d _).2 hm] at h2
    cases h2

/-! ### Schedules -/
inductive Sched (n : Nat) (need : Nat → Nat → Prop) : (Nat → Prop) → List Nat → Prop where
  | nil {x : Nat → Prop} (h : ∀ i, i < n → x i) : Sched n need x []
  | cons {x : Nat → Prop} {i : Nat} {l : List Nat} (hi : i < n) (hx : ¬ x i) (hn : ∀ j, need i j → x j) (t : Sched n need (fun k => x k ∨ k = i) l) : Sched n need x (i :: l)

theorem Sched.congr {n : Nat} {need : Nat → Nat → Prop} {x y : Nat → Prop} {l : List Nat} (h : Sched n need x l) (hxy : ∀ k, x k ↔ y k) : Sched n need y l := by
  have : x = y := funext fun k => propext (hxy k)
  rwa [← this]

theorem sched_go {ops : Array Oper} (hedge : edgesOk 0 ops.toList = true) : ∀ (fuel t : Nat) (listed : Array Bool), listed.size = ops.size → listed.toList.count false = fuel →
    (∀ i j, listed[i]? = some true → Need ops.toList i j → listed[j]? = some true) →
    Sched ops.size (Need ops.toList) (fun k => listed[k]? = some true) (Region.linearise.go .any ops fuel t listed []) := by
  intro fuel
  induction fuel with
  | zero =>
    intro t listed hs hc _
    refine .nil fun i hi => ?_
    rw [List.count_eq_zero] at hc
    have hlt : i < listed.size := by omega
    rw [Array.getElem?_eq_getElem hlt]
    cases hv : listed[i] with
    | true => rfl
    | false => exact absurd (by rw [← hv]; simp) hc
  | succ fuel ih =>
    intro t listed hs hc hdown
    simp only [Region.linearise.go]
    change Sched _ _ _ (match (Region.ready .any ops listed)[t % (Region.ready .any ops listed).length]? with
      | some i => Region.linearise.go .any ops fuel (t / (Region.ready .any ops listed).length) (listed.setIfInBounds i true) [i]
      | none => [].reverse)
    have hb : ∀ i o, ops.toList[i]? = some o → ∀ e ∈ o.after.toList, Region.binds .any e = true → e.on < i := fun i o ho e he hbe => by
      have := edgesOk_at ops.toList 0 hedge i o ho e he hbe
      omega
    -- what is ready
    have hready : ∀ i, i ∈ Region.ready .any ops listed → i < ops.size ∧ listed[i]? = some false ∧ ∀ j, Need ops.toList i j → listed[j]? = some true := by
      intro i hi
      unfold Region.ready at hi
      rw [List.mem_filter, List.mem_range] at hi
      obtain ⟨h1, h2⟩ := hi
      simp only [Bool.and_eq_true, Bool.not_eq_true'] at h2
      have hlt : i < listed.size := by omega
      refine ⟨h1, ?_, ?_⟩
      · have := h2.1
        simp [Array.getD_eq_getD_getElem?, Array.getElem?_eq_getElem hlt] at this ⊢
        exact this
      · intro j hj
        have ho : ops.toList[i]? = some ops[i] := by simp [h1]
        obtain ⟨e, he, hbe, hor⟩ := need_of ho (hb i _ ho) hj
        have h3 := h2.2
        simp only [Array.getElem?_eq_getElem h1, Option.map_some, Option.getD_some] at h3
        rw [Array.all_eq_true_iff_forall_mem] at h3
        have h4 := h3 e (by simpa using he)
        rw [hbe] at h4
        simp only [Bool.not_true, Bool.false_or] at h4
        have h5 : listed[e.on]? = some true := by
          rw [Array.getD_eq_getD_getElem?] at h4
          cases hv : listed[e.on]? with
          | none => rw [hv] at h4; cases h4
          | some b => rw [hv] at h4; simp at h4; rw [h4]
        rcases hor with hor | hor
        · rw [← hor]; exact h5
        · exact hdown _ _ h5 hor
    -- there is one
    have hne : Region.ready .any ops listed ≠ [] := by
      have hmem : false ∈ listed.toList := by
        rw [← List.count_pos_iff, hc]; omega
      obtain ⟨i0, hi0⟩ := List.getElem?_of_mem hmem
      have hex : ∃ i : Nat, listed[i]? = some false := ⟨i0, by simpa using hi0⟩
      have hleast : ∃ i : Nat, listed[i]? = some false ∧ ∀ j : Nat, j < i → listed[j]? ≠ some false := by
        have key : ∀ m i : Nat, i ≤ m → listed[i]? = some false → ∃ i : Nat, listed[i]? = some false ∧ ∀ j : Nat, j < i → listed[j]? ≠ some false := by
          intro m
          induction m with
          | zero => intro i hm h; exact ⟨i, h, fun j hj => absurd hj (by omega)⟩
          | succ m ihm =>
            intro i hm h
            by_cases hq : ∃ j : Nat, j < i ∧ listed[j]? = some false
            · obtain ⟨j, hj, hjf⟩ := hq
              exact ihm j (by omega) hjf
            · exact ⟨i, h, fun j hj hf => hq ⟨j, hj, hf⟩⟩
        obtain ⟨i, hi⟩ := hex
        exact key i i (Nat.le_refl _) hi
      obtain ⟨i, hi, hmin⟩ := hleast
      have hlt : i < listed.size := (Array.getElem?_eq_some_iff.1 hi).1
      have hlt' : i < ops.size := by omega
      intro hnil
      have : i ∈ Region.ready .any ops listed := by
        unfold Region.ready
        rw [List.mem_filter, List.mem_range]
        refine ⟨hlt', ?_⟩
        simp only [Bool.and_eq_true, Bool.not_eq_true']
        refine ⟨?_, ?_⟩
        · rw [Array.getD_eq_getD_getElem?, hi]; rfl
        · simp only [Array.getElem?_eq_getElem hlt', Option.map_some, Option.getD_some]
          rw [Array.all_eq_true_iff_forall_mem]
          intro e he
          cases hbe : Region.binds .any e with
          | false => rfl
          | true =>
            have ho : ops.toList[i]? = some ops[i] := by simp [hlt']
            have hon := hb i _ ho e (by simpa using he) hbe
            simp only [Bool.not_true, Bool.false_or]
            have h6 := hmin e.on hon
            have h7 : e.on < listed.size := by omega
            rw [Array.getD_eq_getD_getElem?]
            rw [Array.getElem?_eq_getElem h7] at h6 ⊢
            cases hv : listed[e.on] with
            | true => rfl
            | false => rw [hv] at h6; exact absurd rfl h6
      rw [hnil] at this
      cases this
    cases hi : (Region.ready .any ops listed)[t % (Region.ready .any ops listed).length]? with
    | none =>
      have hlen : 0 < (Region.ready .any ops listed).length := List.length_pos_iff.2 hne
      have := Nat.mod_lt t hlen
      rw [List.getElem?_eq_none_iff] at hi
      omega
    | some i =>
      simp only []
      rw [linearise_go_acc, List.reverse_singleton, List.singleton_append]
      obtain ⟨h1, h2, h3⟩ := hready i (List.mem_of_getElem? hi)
      have hlt : i < listed.size := by omega
      refine .cons h1 (by rw [h2]; simp) h3 ?_
      have hnew : ∀ k, (listed.setIfInBounds i true)[k]? = some true ↔ (listed[k]? = some true ∨ k = i) := by
        intro k
        rw [Array.getElem?_setIfInBounds]
        by_cases hk : i = k
        · subst hk; simp [hlt]
        · rw [if_neg hk]
          constructor
          · intro h; exact .inl h
          · rintro (h | h)
            · exact h
            · exact absurd h.symm hk
      refine (ih (t / (Region.ready .any ops listed).length) (listed.setIfInBounds i true) (by simpa using hs) ?_ ?_).congr hnew
      · rw [Array.toList_setIfInBounds, List.count_set (by rw [Array.length_toList]; exact hlt)]
        have : listed.toList[i]? = some false := by simpa using h2
        have h4 : listed.toList[i] = false := (List.getElem?_eq_some_iff.1 this).2
        rw [h4, hc]
        simp
      · intro p q hp hq
        rw [hnew] at hp ⊢
        rcases hp with hp | hp
        · exact .inl (hdown p q hp hq)
        · subst hp; exact .inl (h3 q hq)

/-- Every order that the model draws is a schedule. -/
theorem sched_of {ops : Array Oper} (hedge : edgesOk 0 ops.toList = true) (t : Nat) : Sched ops.size (Need ops.toList) (fun _ => False) (Region.schedule true ops t) := by
  have h := sched_go hedge ops.size t (Array.replicate ops.size false) (by simp) (by simp) (fun i j hi => by
    rw [Array.getElem?_replicate] at hi
    split at hi <;> simp at hi)
  unfold Region.schedule
  simp only [Bool.true_or, if_true]
  refine Sched.congr (x := fun k => (Array.replicate ops.size false)[k]? = some true) h fun k => ?_
  rw [Array.getElem?_replicate]
  split <;> simp
end Go.Rx
