/- The evaluator's own small words, written by recursors: so the kernel runs them in few steps. -/
import GoSem.Step
set_option linter.unusedSimpArgs false
set_option linter.unusedVariables false
set_option linter.unusedSectionVars false
namespace Go.Rx
open Go
universe u v
noncomputable section
variable {α : Type u} {β : Type v}

/-- Bind of Option. -/
def ob (x : Option α) (f : α → Option β) : Option β := Option.rec none f x
@[simp] theorem ob_none (f : α → Option β) : ob none f = none := rfl
@[simp] theorem ob_some (a : α) (f : α → Option β) : ob (some a) f = f a := rfl
theorem ob_eq_some {x : Option α} {f : α → Option β} {b : β} : ob x f = some b ↔ ∃ a, x = some a ∧ f a = some b := by
  cases x <;> simp
/-- If. -/
def sel (b : Bool) (x y : α) : α := Bool.rec y x b
@[simp] theorem sel_true (x y : α) : sel true x y = x := rfl
@[simp] theorem sel_false (x y : α) : sel false x y = y := rfl
/-- Only if. -/
def chk (b : Bool) (x : Option α) : Option α := Bool.rec none x b
@[simp] theorem chk_true (x : Option α) : chk true x = x := rfl
@[simp] theorem chk_false (x : Option α) : chk false x = none := rfl
theorem chk_eq_some {b : Bool} {x : Option α} {a : α} : chk b x = some a ↔ b = true ∧ x = some a := by
  cases b <;> simp

/-- The element at an index. -/
def nth (l : List α) : Nat → Option α := List.rec (fun _ => none) (fun a _ ih n => Nat.rec (some a) (fun m _ => ih m) n) l
theorem nth_eq (l : List α) (n : Nat) : nth l n = l[n]? := by
  induction l generalizing n with
  | nil => rfl
  | cons a l ih => cases n with
    | zero => rfl
    | succ n => rw [List.getElem?_cons_succ]; exact ih n
/-- The element at an index, or another. -/
def nthD (d : α) (l : List α) : Nat → α := List.rec (fun _ => d) (fun a _ ih n => Nat.rec a (fun m _ => ih m) n) l
theorem nthD_eq (d : α) (l : List α) (n : Nat) : nthD d l n = (l[n]?).getD d := by
  induction l generalizing n with
  | nil => rfl
  | cons a l ih => cases n with
    | zero => rfl
    | succ n => rw [List.getElem?_cons_succ]; exact ih n
def setn (v : α) (l : List α) : Nat → List α := List.rec (fun _ => []) (fun a l ih n => Nat.rec (v :: l) (fun m _ => a :: ih m) n) l
theorem setn_eq (l : List α) (n : Nat) (v : α) : setn v l n = l.set n v := by
  induction l generalizing n with
  | nil => rfl
  | cons a l ih => cases n with
    | zero => rfl
    | succ n => rw [List.set_cons_succ, ← ih n]; rfl
def dropn (l : List α) : Nat → List α := List.rec (fun _ => []) (fun a l ih n => Nat.rec (a :: l) (fun m _ => ih m) n) l
theorem dropn_eq (l : List α) (n : Nat) : dropn l n = l.drop n := by
  induction l generalizing n with
  | nil => simp [dropn]
  | cons a l ih => cases n with
    | zero => rfl
    | succ n => rw [List.drop_succ_cons, ← ih n]; rfl
/-- The first elements, if there are so many, and all pass. -/
def takeOk (p : α → Bool) (l : List α) : Nat → Option (List α) :=
  List.rec (fun n => Nat.rec (some []) (fun _ _ => none) n)
    (fun a _ ih n => Nat.rec (some []) (fun m _ => Bool.rec none (Option.rec none (fun r => some (a :: r)) (ih m)) (p a)) n) l
theorem takeOk_eq (p : α → Bool) (l : List α) (n : Nat) : takeOk p l n = if n ≤ l.length ∧ (l.take n).all p = true then some (l.take n) else none := by
  induction l generalizing n with
  | nil => cases n with
    | zero => rfl
    | succ n => rfl
  | cons a l ih => cases n with
    | zero => rfl
    | succ n =>
      show (Bool.rec none (Option.rec none (fun r => some (a :: r)) (takeOk p l n)) (p a) : Option (List α)) = _
      rw [ih n]
      cases hp : p a with
      | false => simp [hp]
      | true =>
        by_cases h : n ≤ l.length ∧ (l.take n).all p = true
        · simp [h, hp]
        · rw [if_neg h, if_neg (by simpa [hp] using h)]
def lengthn (l : List α) : Nat := List.rec 0 (fun _ _ ih => Nat.succ ih) l
theorem lengthn_eq (l : List α) : lengthn l = l.length := by
  induction l with
  | nil => rfl
  | cons a l ih => exact congrArg Nat.succ ih
def alln (p : α → Bool) (l : List α) : Bool := List.rec true (fun a _ ih => Bool.rec false ih (p a)) l
theorem alln_eq (p : α → Bool) (l : List α) : alln p l = l.all p := by
  induction l with
  | nil => rfl
  | cons a l ih => rw [List.all_cons, ← ih]; show @Bool.rec (fun _ => Bool) false (alln p l) (p a) = _; cases p a <;> rfl
def appn (l m : List α) : List α := List.rec m (fun a _ ih => a :: ih) l
theorem appn_eq (l m : List α) : appn l m = l ++ m := by
  induction l with
  | nil => rfl
  | cons a l ih => rw [List.cons_append, ← ih]; rfl
/-- Values written over a list from an index on. -/
def over (vs : List α) (l : List α) : List α := List.rec (fun l => l) (fun v _ ih l => List.rec [] (fun _ l _ => v :: ih l) l) vs l
theorem over_eq (vs : List α) : ∀ l : List α, vs.length ≤ l.length → over vs l = vs ++ l.drop vs.length := by
  induction vs with
  | nil => intro l _; rfl
  | cons v vs ih =>
    intro l h
    cases l with
    | nil => simp at h
    | cons a l => rw [List.cons_append, List.length_cons, List.drop_succ_cons, ← ih l (by simpa using h)]; rfl
def splice (vs : List α) (l : List α) : Nat → List α := List.rec (fun _ => []) (fun a l ih n => Nat.rec (over vs (a :: l)) (fun m _ => a :: ih m) n) l
theorem splice_eq (vs : List α) : ∀ (l : List α) (n : Nat), n + vs.length ≤ l.length → splice vs l n = l.take n ++ vs ++ l.drop (n + vs.length) := by
  intro l
  induction l with
  | nil =>
    intro n h
    obtain ⟨rfl, rfl⟩ : n = 0 ∧ vs = [] := by simpa using h
    rfl
  | cons a l ih =>
    intro n h
    cases n with
    | zero => show over vs (a :: l) = _; rw [over_eq vs _ (by simpa using h)]; simp
    | succ n =>
      show a :: splice vs l n = _
      rw [ih n (by simp at h; omega), show n + 1 + vs.length = (n + vs.length) + 1 by omega]
      simp

/-! ### A trie keyed by numbers -/
end
inductive PT (α : Type) where
  | leaf
  | node (v : Option α) (l r : PT α)
namespace PT
noncomputable section
variable {α : Type}
def get (t : PT α) : Nat → Option α :=
  PT.rec (fun _ => none) (fun v _ _ ihl ihr k => Bool.rec (Bool.rec (ihr (Nat.pred (Nat.div k 2))) (ihl (Nat.div k 2)) (Nat.beq (Nat.mod k 2) 1)) v (Nat.beq k 0)) t
theorem get_leaf (k : Nat) : (leaf : PT α).get k = none := rfl
theorem get_node (v : Option α) (l r : PT α) (k : Nat) : (node v l r).get k = if k = 0 then v else if k % 2 = 1 then l.get (k / 2) else r.get (k / 2 - 1) := by
  show (Bool.rec (Bool.rec (r.get (Nat.pred (Nat.div k 2))) (l.get (Nat.div k 2)) (Nat.beq (Nat.mod k 2) 1)) v (Nat.beq k 0) : Option α) = _
  by_cases h : k = 0
  · subst h; rfl
  · have h1 : Nat.beq k 0 = false := by cases k with | zero => exact absurd rfl h | succ n => rfl
    rw [h1, if_neg h]
    by_cases h2 : k % 2 = 1
    · have h3 : Nat.beq (Nat.mod k 2) 1 = true := by show Nat.beq (k % 2) 1 = true; rw [h2]; rfl
      rw [h3, if_pos h2]; rfl
    · have h3 : Nat.beq (Nat.mod k 2) 1 = false := by
        show Nat.beq (k % 2) 1 = false
        have : k % 2 = 0 := by omega
        rw [this]; rfl
      rw [h3, if_neg h2]; rfl
/-- Its parts. -/
def val (t : PT α) : Option α := PT.rec none (fun v _ _ _ _ => v) t
def left (t : PT α) : PT α := PT.rec leaf (fun _ l _ _ _ => l) t
def right (t : PT α) : PT α := PT.rec leaf (fun _ _ r _ _ => r) t
def setF (x : Option α) (f : Nat) : PT α → Nat → PT α :=
  Nat.rec (fun t _ => t) (fun _ ih t k =>
    Bool.rec (Bool.rec (.node t.val t.left (ih t.right (Nat.pred (Nat.div k 2)))) (.node t.val (ih t.left (Nat.div k 2)) t.right) (Nat.beq (Nat.mod k 2) 1)) (.node x t.left t.right) (Nat.beq k 0)) f
def set (t : PT α) (k : Nat) (x : Option α) : PT α := setF x (Nat.succ k) t k
theorem setF_succ (x : Option α) (f : Nat) (t : PT α) (k : Nat) : setF x (f + 1) t k =
    if k = 0 then .node x t.left t.right else if k % 2 = 1 then .node t.val (setF x f t.left (k / 2)) t.right else .node t.val t.left (setF x f t.right (k / 2 - 1)) := by
  show (Bool.rec (Bool.rec (.node t.val t.left (setF x f t.right (Nat.pred (Nat.div k 2)))) (.node t.val (setF x f t.left (Nat.div k 2)) t.right) (Nat.beq (Nat.mod k 2) 1)) (.node x t.left t.right) (Nat.beq k 0) : PT α) = _
  by_cases h : k = 0
  · subst h; rfl
  · have h1 : Nat.beq k 0 = false := by cases k with | zero => exact absurd rfl h | succ n => rfl
    rw [h1, if_neg h]
    by_cases h2 : k % 2 = 1
    · have h3 : Nat.beq (Nat.mod k 2) 1 = true := by show Nat.beq (k % 2) 1 = true; rw [h2]; rfl
      rw [h3, if_pos h2]; rfl
    · have h3 : Nat.beq (Nat.mod k 2) 1 = false := by
        show Nat.beq (k % 2) 1 = false
        have : k % 2 = 0 := by omega
        rw [this]; rfl
      rw [h3, if_neg h2]; rfl
theorem get_eta (t : PT α) (k : Nat) : t.get k = if k = 0 then t.val else if k % 2 = 1 then t.left.get (k / 2) else t.right.get (k / 2 - 1) := by
  cases t with
  | leaf => simp [get_leaf, val, left, right]
  | node v l r => exact get_node v l r k
theorem get_setF (x : Option α) : ∀ (f : Nat) (t : PT α) (k j : Nat), k < f → (setF x f t k).get j = if j = k then x else t.get j := by
  intro f
  induction f with
  | zero => intro t k j h; omega
  | succ f ih =>
    intro t k j h
    rw [setF_succ, get_eta t j]
    by_cases hk : k = 0
    · subst hk
      rw [if_pos rfl, get_node]
      by_cases hj : j = 0
      · simp [hj]
      · simp [hj]
    · rw [if_neg hk]
      by_cases hk2 : k % 2 = 1
      · rw [if_pos hk2, get_node]
        by_cases hj : j = 0
        · simp [hj]; omega
        · by_cases hj2 : j % 2 = 1
          · simp only [hj, hj2, if_false, if_true, ih _ _ _ (show k / 2 < f by omega)]
            by_cases e : j = k
            · simp [e]
            · rw [if_neg e, if_neg (by omega)]
          · simp only [hj, hj2, if_false]
            rw [if_neg (by omega)]
      · rw [if_neg hk2, get_node]
        by_cases hj : j = 0
        · simp [hj]; omega
        · by_cases hj2 : j % 2 = 1
          · simp only [hj, hj2, if_false, if_true]
            rw [if_neg (by omega)]
          · simp only [hj, hj2, if_false, ih _ _ _ (show k / 2 - 1 < f by omega)]
            by_cases e : j = k
            · simp [e]
            · rw [if_neg e, if_neg (by omega)]
theorem get_set (t : PT α) (k j : Nat) (x : Option α) : (t.set k x).get j = if j = k then x else t.get j := get_setF x _ t k j (Nat.lt_succ_self k)
end
end PT
end Go.Rx
