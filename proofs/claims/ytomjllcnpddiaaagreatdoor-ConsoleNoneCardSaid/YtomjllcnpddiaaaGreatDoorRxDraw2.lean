/- A region of open order: what the evaluator has looked at. -/
import Derived.Test.YtomjllcnpddiaaaGreatDoorRxDraw1
set_option linter.unusedSimpArgs false
set_option linter.unusedVariables false
set_option linter.unusedSectionVars false
namespace Go.Rx
open Go

section
variable (P : Program) (E : Env) (rec : Rec) (all : List Oper)

/-- One operation as the evaluator has run it. -/
structure OpTr (S S1 : St) (T T1 : List Value) (V : Value) (r : Rec1) (o : Oper) : Prop where
  lo : r.lo = S.next
  hi : r.hi = S1.next
  tm : T1 = putT T o.dst V
  log : S1.log = r.log ++ S.log
  run : (wantedA all T o.guard = false ∧ V = undef ∧ S1 = S ∧ r.log = []) ∨
    (wantedA all T o.guard = true ∧ ∃ H s1, op1 P E rec T ⟨H, S.next, []⟩ o.op = some (V, s1) ∧ s1.log = r.log ∧ s1.next = S1.next ∧
      (∀ b e, H.get b = some e → S.h.get b = some e ∧ InDom r b) ∧
      (∀ b, W r b → S1.h.get b = s1.h.get b) ∧
      ((∀ b, ¬ W r b → S1.h.get b = S.h.get b) ∨ ((∀ b, S1.h.get b = s1.h.get b) ∧ (∀ b, H.get b = S.h.get b))))

/-- A whole region as the evaluator has run it. -/
structure Trace (ms : List Nat) (d : Nat) (done : List Rec1) (l : List Oper) (S : Nat → St) (T : Nat → List Value) (V : Nat → Value) (R : Nat → Rec1) : Prop where
  mask : ∀ i o, l[i]? = some o → (R i).mask = nthD 0 ms (d + i)
  op : ∀ i o, l[i]? = some o → OpTr P E rec all (S i) (S (i + 1)) (T i) (T (i + 1)) (V i) (R i) o
  old : ∀ i o, l[i]? = some o → ∀ j r, done[j]? = some r → (R i).mask.testBit j = true ∨ Free r (R i)
  new : ∀ i o, l[i]? = some o → ∀ j, j < i → (R i).mask.testBit (d + j) = true ∨ Free (R j) (R i)
end

section
variable {P : Program} {E : Env} {rec : Rec} {all : List Oper}

theorem op1_other {tm : List Value} {s : St} {o : Op} (h : isCall o = false) : op1 P E rec tm s o = opA P E tm s o := by
  unfold op1
  split
  · cases h
  · rfl

/-- A function of numbers, with a value ahead. -/
def ahead {α : Type} (a : α) (f : Nat → α) : Nat → α := fun n => Nat.casesOn n a f

theorem trace_cons {ms : List Nat} {done : List Rec1} {o : Oper} {l : List Oper} {s1 s : St} {tm1 tm : List Value} {v : Value} {r : Rec1} {S : Nat → St} {T : Nat → List Value} {V : Nat → Value} {R : Nat → Rec1}
    (hm : r.mask = nthD 0 ms done.length) (hop : OpTr P E rec all s s1 tm tm1 v r o) (hc : clear r 0 done = true) (hS : S 0 = s1) (hT : T 0 = tm1)
    (h : Trace P E rec all ms (done ++ [r]).length (done ++ [r]) l S T V R) : Trace P E rec all ms done.length done (o :: l) (ahead s S) (ahead tm T) (ahead v V) (ahead r R) where
  mask i o' hi := by
    cases i with
    | zero => exact hm
    | succ i =>
      have := h.mask i o' (by simpa using hi)
      simp only [List.length_append, List.length_cons, List.length_nil] at this
      rw [show done.length + (i + 1) = done.length + (0 + 1) + i by omega]
      exact this
  op i o' hi := by
    cases i with
    | zero => simp at hi; subst hi; subst hS; subst hT; exact hop
    | succ i => exact h.op i o' (by simpa using hi)
  old i o' hi j r' hj := by
    cases i with
    | zero =>
      have := clear_at hc j r' hj
      rw [Nat.zero_add] at this
      exact this
    | succ i =>
      have hlt := (List.getElem?_eq_some_iff.1 hj).1
      exact h.old i o' (by simpa using hi) j r' (by rw [List.getElem?_append_left hlt]; exact hj)
  new i o' hi j hj := by
    cases i with
    | zero => omega
    | succ i =>
      cases j with
      | zero =>
        have := h.old i o' (by simpa using hi) done.length r (by simp)
        exact this
      | succ j =>
        have := h.new i o' (by simpa using hi) j (by omega)
        simp only [List.length_append, List.length_cons, List.length_nil] at this
        rw [show done.length + (j + 1) = done.length + (0 + 1) + j by omega]
        exact this

theorem drawOps_trace {ms : List Nat} : ∀ (l : List Oper) (done : List Rec1) (tm tm' : List Value) (s s' : St), drawOps P E rec all ms l done tm s = some (tm', s') →
    ∃ S T V R, S 0 = s ∧ T 0 = tm ∧ S l.length = s' ∧ T l.length = tm' ∧ Trace P E rec all ms done.length done l S T V R := by
  intro l
  induction l with
  | nil =>
    intro done tm tm' s s' h
    cases h
    exact ⟨fun _ => s, fun _ => tm, fun _ => undef, fun _ => ⟨0, none, [], 0, 0⟩, rfl, rfl, rfl, rfl,
      ⟨fun i o hi => by simp at hi, fun i o hi => by simp at hi, fun i o hi => by simp at hi, fun i o hi => by simp at hi⟩⟩
  | cons o l ih =>
    intro done tm tm' s s' h
    have h' : sel (wantedA all tm o.guard)
      (sel (isCall o.op)
        (ob (op1 P E rec tm ⟨s.h, s.next, []⟩ o.op) fun r =>
          chk (clear ⟨nthD 0 ms (lengthn done), none, r.2.log, s.next, r.2.next⟩ 0 done)
            (drawOps P E rec all ms l (appn done [⟨nthD 0 ms (lengthn done), none, r.2.log, s.next, r.2.next⟩]) (putT tm o.dst r.1) ⟨r.2.h, r.2.next, appn r.2.log s.log⟩))
        (ob (foot E tm o.op) fun ft =>
          ob (opA P E tm ⟨restrict s.h ft, s.next, []⟩ o.op) fun r =>
            chk (clear ⟨nthD 0 ms (lengthn done), some ft, r.2.log, s.next, r.2.next⟩ 0 done)
              (drawOps P E rec all ms l (appn done [⟨nthD 0 ms (lengthn done), some ft, r.2.log, s.next, r.2.next⟩]) (putT tm o.dst r.1)
                ⟨merge s.h r.2.h (appn r.2.log (upto s.next (Nat.sub r.2.next s.next))), r.2.next, appn r.2.log s.log⟩)))
      (drawOps P E rec all ms l (appn done [⟨nthD 0 ms (lengthn done), some [], [], s.next, s.next⟩]) (putT tm o.dst undef) s) = some (tm', s') := h
    simp only [appn_eq, lengthn_eq] at h'
    -- from one operation and the rest
    have fin : ∀ (s1 : St) (v : Value) (r : Rec1), r.mask = nthD 0 ms done.length → OpTr P E rec all s s1 tm (putT tm o.dst v) v r o → clear r 0 done = true →
        drawOps P E rec all ms l (done ++ [r]) (putT tm o.dst v) s1 = some (tm', s') →
        ∃ S T V R, S 0 = s ∧ T 0 = tm ∧ S (o :: l).length = s' ∧ T (o :: l).length = tm' ∧ Trace P E rec all ms done.length done (o :: l) S T V R := by
      intro s1 v r hm hop hc hd
      obtain ⟨S, T, V, R, h1, h2, h3, h4, h5⟩ := ih _ _ _ _ _ hd
      exact ⟨ahead s S, ahead tm T, ahead v V, ahead r R, rfl, rfl, h3, h4, trace_cons hm hop hc h1 h2 h5⟩
    cases hw : wantedA all tm o.guard with
    | false =>
      rw [hw, sel_false] at h'
      refine fin s undef _ rfl ⟨rfl, rfl, rfl, rfl, .inl ⟨hw, rfl, rfl, rfl⟩⟩ ?_ h'
      have : ∀ (l : List Rec1) (j : Nat), clear ⟨nthD 0 ms done.length, some [], [], s.next, s.next⟩ j l = true := by
        intro l
        induction l with
        | nil => intro j; rfl
        | cons r l ihl =>
          intro j
          simp only [clear, ihl, Bool.and_true, Bool.or_eq_true]
          right
          have h1 : touches ⟨nthD 0 ms done.length, some [], [], s.next, s.next⟩ r.dom = false := by
            unfold touches
            split
            · simp
            · rw [List.any_eq_false]
              intro n _
              simp [hasN]
          have h2 : touches ⟨nthD 0 ms done.length, some [], [], s.next, s.next⟩ (some r.log) = false := by
            unfold touches
            rw [List.any_eq_false]
            intro n _
            simp [hasN]
          rw [h1, h2]
          simp [touches]
      exact this done 0
    | true =>
      rw [hw, sel_true] at h'
      cases hcall : isCall o.op with
      | true =>
        rw [hcall, sel_true, ob_eq_some] at h'
        obtain ⟨⟨v, s1⟩, h1, h2⟩ := h'
        rw [chk_eq_some] at h2
        obtain ⟨hc, h2⟩ := h2
        refine fin ⟨s1.h, s1.next, s1.log ++ s.log⟩ v ⟨nthD 0 ms done.length, none, s1.log, s.next, s1.next⟩ rfl ⟨rfl, rfl, rfl, rfl, .inr ⟨hw, s.h, s1, h1, rfl, rfl, fun b e he => ⟨he, fun l hl => by cases hl⟩, fun _ _ => rfl, .inr ⟨fun _ => rfl, fun _ => rfl⟩⟩⟩ hc h2
      | false =>
        rw [hcall, sel_false, ob_eq_some] at h'
        obtain ⟨ft, hft, h'⟩ := h'
        rw [ob_eq_some] at h'
        obtain ⟨⟨v, s1⟩, h1, h2⟩ := h'
        rw [chk_eq_some] at h2
        obtain ⟨hc, h2⟩ := h2
        rw [← op1_other (rec := rec) hcall] at h1
        have hmem : ∀ b, b ∈ s1.log ++ upto s.next (Nat.sub s1.next s.next) ↔ W ⟨nthD 0 ms done.length, some ft, s1.log, s.next, s1.next⟩ b := by
          intro b
          rw [List.mem_append, mem_upto]
          unfold W
          show (b ∈ s1.log ∨ s.next ≤ b ∧ b < s.next + (s1.next - s.next)) ↔ (b ∈ s1.log ∨ s.next ≤ b ∧ b < s1.next)
          have : (s.next ≤ b ∧ b < s.next + (s1.next - s.next)) ↔ (s.next ≤ b ∧ b < s1.next) := by omega
          rw [this]
        refine fin ⟨merge s.h s1.h (s1.log ++ upto s.next (Nat.sub s1.next s.next)), s1.next, s1.log ++ s.log⟩ v ⟨nthD 0 ms done.length, some ft, s1.log, s.next, s1.next⟩ rfl ⟨rfl, rfl, rfl, rfl, .inr ⟨hw, restrict s.h ft, s1, h1, rfl, rfl, ?_, ?_, .inl ?_⟩⟩ hc h2
        · intro b e he
          rw [restrict_get] at he
          split at he
          · rename_i hb
            exact ⟨he, fun l hl => by cases hl; exact hb⟩
          · cases he
        · intro b hb
          show (merge s.h s1.h _).get b = _
          rw [merge_get, if_pos ((hmem b).2 hb)]
        · intro b hb
          show (merge s.h s1.h _).get b = _
          rw [merge_get, if_neg fun h => hb ((hmem b).1 h)]
end
end Go.Rx
