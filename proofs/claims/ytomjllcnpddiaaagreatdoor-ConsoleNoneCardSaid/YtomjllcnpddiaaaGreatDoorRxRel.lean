/- How the evaluator's abstract state stands to the model's world. -/
import Derived.Test.YtomjllcnpddiaaaGreatDoorRxEval
import Derived.Laws.Sem
import Derived.Laws.World
set_option linter.unusedSimpArgs false
set_option linter.unusedVariables false
set_option linter.unusedSectionVars false
namespace Go.Rx
open Go

/-- Where a name lies: a block, the cell where it begins, how many cells there are from there on. -/
structure View where
  blk : Nat
  base : Nat
  avail : Nat

abbrev Ren := Nat → Option View

/-- One renaming goes on from another. -/
def Sub (ρ ρ' : Ren) : Prop := ∀ b v, ρ b = some v → ρ' b = some v
theorem Sub.refl (ρ : Ren) : Sub ρ ρ := fun _ _ h => h
theorem Sub.trans {a b c : Ren} (h : Sub a b) (k : Sub b c) : Sub a c := fun x v e => k x v (h x v e)

mutual
/-- An abstract value and a value of the model. -/
inductive VR (ρ : Ren) : Value → Value → Prop where
  | bool (b : Bool) : VR ρ (.bool b) (.bool b)
  | int (k : IntKind) (n : Int) : VR ρ (.int k n) (.int k n)
  | string (s : ByteArray) : VR ρ (.string s) (.string s)
  | nilPtr : VR ρ (.pointer none) (.pointer none)
  | ptr {b off : Nat} {v : View} (h : ρ b = some v) : VR ρ (.pointer (some ⟨b, off, none⟩)) (.pointer (some ⟨v.blk, v.base + off, none⟩))
  | nilSlice : VR ρ (.slice none 0 0) (.slice none 0 0)
  | slice {b off len cap : Nat} {v : View} (h : ρ b = some v) : VR ρ (.slice (some ⟨b, off, none⟩) len cap) (.slice (some ⟨v.blk, v.base + off, none⟩) len cap)
  | openS {b off es len cap cap' : Nat} {v : View} (h : ρ b = some v) (hc : cap ≤ cap') (ha : off + cap' * es ≤ v.avail) :
      VR ρ (.slice (some ⟨b, off, some es⟩) len cap) (.slice (some ⟨v.blk, v.base + off, none⟩) len cap')
  | zero (a a' : Addr) : VR ρ (.slice (some a) 0 0) (.slice (some a') 0 0)
  | nilMap : VR ρ (.map none) (.map none)
  | map {r : Nat} {v : View} (h : ρ r = some v) : VR ρ (.map (some r)) (.map (some v.blk))
  | nilFunc : VR ρ .nilFunc .nilFunc
  | nilIface : VR ρ .nilIface .nilIface
  | func {f : FuncId} {a a' c c' : List Value} (ha : VL ρ a a') (hc : VL ρ c c') : VR ρ (.func (.func f) ⟨a⟩ ⟨c⟩) (.func (.func f) ⟨a'⟩ ⟨c'⟩)
  | yield {l : Nat} {v : View} (h : ρ l = some v) : VR ρ (.func (.yield l) ⟨[]⟩ ⟨[]⟩) (.func (.yield v.blk) ⟨[]⟩ ⟨[]⟩)
  | iface {t : TypeId} {v v' : Value} (h : VR ρ v v') : VR ρ (.iface t v) (.iface t v')
  | agg {l l' : List Value} (h : VL ρ l l') : VR ρ (.agg ⟨l⟩) (.agg ⟨l'⟩)
  | tuple {l l' : List Value} (h : VL ρ l l') : VR ρ (.tuple ⟨l⟩) (.tuple ⟨l'⟩)
inductive VL (ρ : Ren) : List Value → List Value → Prop where
  | nil : VL ρ [] []
  | cons {v v' : Value} {l l' : List Value} (h : VR ρ v v') (t : VL ρ l l') : VL ρ (v :: l) (v' :: l')
end

section
variable {ρ ρ' : Ren}

theorem VR.mono {v v' : Value} (h : VR ρ v v') (hs : Sub ρ ρ') : VR ρ' v v' :=
  VR.rec (motive_1 := fun v v' _ => VR ρ' v v') (motive_2 := fun l l' _ => VL ρ' l l')
    (fun b => .bool b) (fun k n => .int k n) (fun s => .string s) .nilPtr (fun h => .ptr (hs _ _ h)) .nilSlice (fun h => .slice (hs _ _ h))
    (fun h hc ha => .openS (hs _ _ h) hc ha) (fun a a' => .zero a a') .nilMap (fun h => .map (hs _ _ h)) .nilFunc .nilIface
    (fun _ _ iha ihc => .func iha ihc) (fun h => .yield (hs _ _ h)) (fun _ ih => .iface ih) (fun _ ih => .agg ih) (fun _ ih => .tuple ih)
    .nil (fun _ _ ih iht => .cons ih iht) h
theorem VL.mono {l l' : List Value} (h : VL ρ l l') (hs : Sub ρ ρ') : VL ρ' l l' := by
  induction l generalizing l' with
  | nil => cases h; exact .nil
  | cons v l ih => cases h with | cons h t => exact .cons (h.mono hs) (ih t)

theorem VL.length {l l' : List Value} (h : VL ρ l l') : l.length = l'.length := by
  induction l generalizing l' with
  | nil => cases h; rfl
  | cons v l ih => cases h with | cons h t => simp [ih t]
theorem VL.get {l l' : List Value} (h : VL ρ l l') {i : Nat} {v : Value} (hi : l[i]? = some v) : ∃ v', l'[i]? = some v' ∧ VR ρ v v' := by
  induction l generalizing l' i with
  | nil => simp at hi
  | cons a l ih =>
    cases h with
    | cons h t =>
      cases i with
      | zero => simp at hi; subst hi; exact ⟨_, rfl, h⟩
      | succ i => simp at hi; obtain ⟨v', h1, h2⟩ := ih t hi; exact ⟨v', by simpa using h1, h2⟩
theorem VL.of_get {l l' : List Value} (hl : l.length = l'.length) (h : ∀ (i : Nat) v v', l[i]? = some v → l'[i]? = some v' → VR ρ v v') : VL ρ l l' := by
  induction l generalizing l' with
  | nil => cases l' with | nil => exact .nil | cons a l' => simp at hl
  | cons a l ih =>
    cases l' with
    | nil => simp at hl
    | cons a' l' => exact .cons (h 0 a a' rfl rfl) (ih (by simpa using hl) fun i v v' h1 h2 => h (i + 1) v v' (by simpa using h1) (by simpa using h2))
theorem VL.append {a a' b b' : List Value} (h : VL ρ a a') (k : VL ρ b b') : VL ρ (a ++ b) (a' ++ b') := by
  induction a generalizing a' with
  | nil => cases h; exact k
  | cons v l ih => cases h with | cons h t => exact .cons h (ih t)
theorem VL.take {l l' : List Value} (h : VL ρ l l') (n : Nat) : VL ρ (l.take n) (l'.take n) := by
  induction l generalizing l' n with
  | nil => cases h; simpa using VL.nil
  | cons v l ih => cases h with
    | cons h t => cases n with
      | zero => exact .nil
      | succ n => exact .cons h (ih t n)
theorem VL.drop {l l' : List Value} (h : VL ρ l l') (n : Nat) : VL ρ (l.drop n) (l'.drop n) := by
  induction l generalizing l' n with
  | nil => cases h; simpa using VL.nil
  | cons v l ih => cases h with
    | cons h t => cases n with
      | zero => exact .cons h t
      | succ n => simpa using ih t n
theorem VL.set {l l' : List Value} (h : VL ρ l l') (n : Nat) {v v' : Value} (hv : VR ρ v v') : VL ρ (l.set n v) (l'.set n v') := by
  induction l generalizing l' n with
  | nil => cases h; exact .nil
  | cons a l ih => cases h with
    | cons h t => cases n with
      | zero => exact .cons hv t
      | succ n => exact .cons h (ih t n)
theorem VL.replicate (n : Nat) {v v' : Value} (hv : VR ρ v v') : VL ρ (List.replicate n v) (List.replicate n v') := by
  induction n with
  | zero => exact .nil
  | succ n ih => exact .cons hv ih
theorem VL.splice {vs vs' l l' : List Value} (hv : VL ρ vs vs') (hl : VL ρ l l') (n : Nat) :
    VL ρ (l.take n ++ vs ++ l.drop (n + vs.length)) (l'.take n ++ vs' ++ l'.drop (n + vs'.length)) := by
  rw [← hv.length]
  exact ((hl.take n).append hv).append (hl.drop _)

theorem VR.undef : VR ρ undef undef := .tuple .nil
theorem VR.undefL : VL ρ [] [] := .nil
theorem VL.getD {l l' : List Value} (h : VL ρ l l') (i : Nat) : VR ρ ((l[i]?).getD Go.undef) ((l'[i]?).getD Go.undef) := by
  cases hi : l[i]? with
  | none =>
    have : l'[i]? = none := by rw [List.getElem?_eq_none_iff] at *; rw [← h.length]; exact hi
    rw [this]; exact VR.undef
  | some v => obtain ⟨v', h1, h2⟩ := h.get hi; rw [h1]; exact h2

theorem VR.of_scalar {v : Value} (h : scalar v = true) : VR ρ v v := by
  unfold scalar at h
  split at h <;> first | exact .bool _ | exact .int _ _ | exact .string _ | exact .nilPtr | exact .nilIface | exact .nilFunc | exact .nilMap | exact .nilSlice | cases h
theorem VL.of_scalars {l : List Value} (h : l.all scalar = true) : VL ρ l l := by
  induction l with
  | nil => exact .nil
  | cons v l ih => simp at h; exact .cons (.of_scalar h.1) (ih (by simpa using h.2))
theorem VR.of_closed {v : Value} (h : closed v = true) : VR ρ v v := by
  unfold closed at h
  split at h
  · rename_i cs; rw [alln_eq] at h; obtain ⟨l⟩ := cs; exact .agg (.of_scalars h)
  · rename_i cs; rw [alln_eq] at h; obtain ⟨l⟩ := cs; exact .tuple (.of_scalars h)
  · exact .of_scalar h
theorem VR.scalar_eq {v v' : Value} (h : VR ρ v v') (hs : scalar v = true) : v' = v := by
  cases h <;> first | rfl | simp [scalar] at hs
theorem VR.oneCell {v v' : Value} (h : VR ρ v v') : v'.oneCell' = oneCell v := by
  cases h <;> rfl
theorem VR.cells {v v' : Value} (h : VR ρ v v') : VL ρ (cellsOf v) v'.cells.toList := by
  cases h with
  | agg h => exact h
  | bool b => exact .cons (.bool b) .nil
  | int k n => exact .cons (.int k n) .nil
  | string s => exact .cons (.string s) .nil
  | nilPtr => exact .cons .nilPtr .nil
  | ptr h => exact .cons (.ptr h) .nil
  | nilSlice => exact .cons .nilSlice .nil
  | slice h => exact .cons (.slice h) .nil
  | openS h hc ha => exact .cons (.openS h hc ha) .nil
  | zero a a' => exact .cons (.zero a a') .nil
  | nilMap => exact .cons .nilMap .nil
  | map h => exact .cons (.map h) .nil
  | nilFunc => exact .cons .nilFunc .nil
  | nilIface => exact .cons .nilIface .nil
  | func ha hc => exact .cons (.func ha hc) .nil
  | yield h => exact .cons (.yield h) .nil
  | iface h => exact .cons (.iface h) .nil
  | tuple h => exact .cons (.tuple h) .nil

/-! ### Blocks -/
/-- A cell: where nothing is known of it, whatever it holds. -/
def CR (ρ : Ren) (v v' : Value) : Prop := known v = true → VR ρ v v'
theorem CR.mono {v v' : Value} (h : CR ρ v v') (hs : Sub ρ ρ') : CR ρ' v v' := fun k => (h k).mono hs
theorem VR.cr {v v' : Value} (h : VR ρ v v') : CR ρ v v' := fun _ => h

/-- Which cells are frozen: 'lo = hi = 0': none; 'lo = hi', not 0: none that there is; else just these. -/
def FR (fz fz' : Nat × Nat) (v : View) : Prop :=
  (fz.1 = fz.2 ∧ fz'.1 = fz'.2) ∨ (fz.1 = fz.2 ∧ fz.1 ≠ 0 ∧ v.base + v.avail ≤ fz'.1) ∨ (fz.1 < fz.2 ∧ fz' = (v.base + fz.1, v.base + fz.2))

structure ER (ρ : Ren) (e e' : MapEntry) : Prop where
  key : VR ρ e.key e'.key
  val : VR ρ e.val e'.val
  born : e'.born = e.born
inductive EL (ρ : Ren) : List MapEntry → List MapEntry → Prop where
  | nil : EL ρ [] []
  | cons {e e' : MapEntry} {l l' : List MapEntry} (h : ER ρ e e') (t : EL ρ l l') : EL ρ (e :: l) (e' :: l')
theorem EL.mono {l l' : List MapEntry} (h : EL ρ l l') (hs : Sub ρ ρ') : EL ρ' l l' := by
  induction h with
  | nil => exact .nil
  | cons h _ ih => exact .cons ⟨h.key.mono hs, h.val.mono hs, h.born⟩ ih
theorem EL.length {l l' : List MapEntry} (h : EL ρ l l') : l.length = l'.length := by
  induction h with
  | nil => rfl
  | cons _ _ ih => simp [ih]

structure LR (ρ : Ren) (l l' : Loop) : Prop where
  state : l'.state = l.state
  pending : l'.pending = l.pending
  fn : l'.fn = l.fn
  tmps : VL ρ l.tmps.toList l'.tmps.toList
  params : l'.params = l.params
  assign : l'.assign = l.assign
  body : l'.body = l.body
  defers : ∃ v, ρ l.defers = some v ∧ l'.defers = v.blk

/-- An abstract block and a block of the model. -/
inductive OR (ρ : Ren) (v : View) : Ent → Obj → Prop where
  | cells {cs : List Value} {elem : TypeId} {fz fz' : Nat × Nat} {ex : Bool} {c : Array Value} (hsize : c.size = v.base + v.avail) (hlen : cs.length ≤ v.avail)
      (hc : ∀ i x, cs[i]? = some x → ∃ x', c[v.base + i]? = some x' ∧ CR ρ x x') (hex : ex = true → v.base = 0 ∧ v.avail = cs.length) (hf : FR fz fz' v) :
      OR ρ v (.cells cs elem fz ex) (.cells c elem fz')
  | map {es es' : List MapEntry} {clock : Nat} (h : EL ρ es es') : OR ρ v (.map es clock) (.map ⟨es'⟩ clock)
  | loop {l l' : Loop} (h : LR ρ l l') : OR ρ v (.loop l) (.loop l')
  | deferred {ds : Option (List Deferred)} (h : ds = none ∨ ds = some []) : OR ρ v (.deferred ds) (.deferred ds)

theorem OR.mono {v : View} {e : Ent} {o : Obj} (h : OR ρ v e o) (hs : Sub ρ ρ') : OR ρ' v e o := by
  cases h with
  | cells hsize hlen hc hex hf => exact .cells hsize hlen (fun i x hx => let ⟨x', h1, h2⟩ := hc i x hx; ⟨x', h1, h2.mono hs⟩) hex hf
  | map h => exact .map (h.mono hs)
  | loop h => exact .loop ⟨h.state, h.pending, h.fn, h.tmps.mono hs, h.params, h.assign, h.body, let ⟨v, h1, h2⟩ := h.defers; ⟨v, hs _ _ h1, h2⟩⟩
  | deferred h => exact .deferred h
end

/-! ### States -/
/-- The abstract state 's' under 'ρ' in the world 'w'. 'G': how many names stand for themselves. -/
structure Rep (G : Nat) (ρ : Ren) (s : St) (w : World) : Prop where
  live : ∀ b e, s.h.get b = some e → ∃ v o, ρ b = some v ∧ w.heap[v.blk]? = some o ∧ OR ρ v e o
  inj : ∀ b b' e e' v v', s.h.get b = some e → s.h.get b' = some e' → ρ b = some v → ρ b' = some v' → v.blk = v'.blk → b = b'
  fresh : ∀ b, s.next ≤ b → ρ b = none
  glob : ∀ g, g < G → ∃ v, ρ g = some v ∧ v.blk = g ∧ v.base = 0
  within : G ≤ s.next

/-- What a piece of the run does to the state and to the world. 'l': the names that it has written. -/
structure Ext (ρ : Ren) (s : St) (w : World) (ρ' : Ren) (s' : St) (w' : World) (l : List Nat) : Prop where
  ren : ∀ b, b < s.next → ρ' b = ρ b
  next : s.next ≤ s'.next
  log : s'.log = l ++ s.log
  heap : ∀ n, n ∉ l → (n < s.next ∨ s'.next ≤ n) → s'.h.get n = s.h.get n
  size : w.heap.size ≤ w'.heap.size
  os : w'.os = w.os
  tape : w'.tape = w.tape
  output : w'.output = w.output
  same : ∀ k, k < w.heap.size → (∀ b ∈ l, ∀ e v, s.h.get b = some e → ρ b = some v → v.blk ≠ k) → w'.heap[k]? = w.heap[k]?
  img : ∀ b' e' v', s'.h.get b' = some e' → ρ' b' = some v' → v'.blk < w.heap.size → ∃ b e v, s.h.get b = some e ∧ ρ b = some v ∧ v.blk = v'.blk ∧ (b' = b ∨ b ∈ l)

section
variable {G : Nat} {ρ ρ' ρ'' : Ren} {s s' s'' : St} {w w' w'' : World} {l l' : List Nat}

theorem Ext.sub (h : Ext ρ s w ρ' s' w' l) (hf : ∀ b, s.next ≤ b → ρ b = none) : Sub ρ ρ' := by
  intro b v hb
  rcases Nat.lt_or_ge b s.next with h1 | h1
  · rw [h.ren b h1]; exact hb
  · rw [hf b h1] at hb; cases hb

theorem Ext.refl (ρ : Ren) (s : St) (w : World) : Ext ρ s w ρ s w [] :=
  ⟨fun _ _ => rfl, Nat.le_refl _, rfl, fun _ _ _ => rfl, Nat.le_refl _, rfl, rfl, rfl, fun _ _ _ => rfl, fun b e v h1 h2 _ => ⟨b, e, v, h1, h2, rfl, .inl rfl⟩⟩
/-- A world that has drawn. -/
theorem Ext.drawn (ρ : Ren) (s : St) (w : World) (n : Nat) : Ext ρ s w ρ s { w with drawn := n } [] :=
  ⟨fun _ _ => rfl, Nat.le_refl _, rfl, fun _ _ _ => rfl, Nat.le_refl _, rfl, rfl, rfl, fun _ _ _ => rfl, fun b e v h1 h2 _ => ⟨b, e, v, h1, h2, rfl, .inl rfl⟩⟩

theorem Ext.trans (h : Ext ρ s w ρ' s' w' l) (k : Ext ρ' s' w' ρ'' s'' w'' l') : Ext ρ s w ρ'' s'' w'' (l' ++ l) where
  ren b hb := (k.ren b (Nat.lt_of_lt_of_le hb h.next)).trans (h.ren b hb)
  next := Nat.le_trans h.next k.next
  log := by rw [k.log, h.log, List.append_assoc]
  heap n hn hb := by
    simp only [List.mem_append, not_or] at hn
    have hn' := Nat.le_trans h.next k.next
    rw [k.heap n hn.1 (by have := h.next; have := k.next; omega), h.heap n hn.2 (by have := h.next; have := k.next; omega)]
  size := Nat.le_trans h.size k.size
  os := k.os.trans h.os
  tape := k.tape.trans h.tape
  output := k.output.trans h.output
  same i hi hl := by
    rw [k.same i (Nat.lt_of_lt_of_le hi h.size), h.same i hi fun b hb e v h1 h2 => hl b (List.mem_append_right _ hb) e v h1 h2]
    intro b hb e v h1 h2 hvi
    obtain ⟨b0, e0, v0, h3, h4, h5, h6⟩ := h.img b e v h1 h2 (by omega)
    rcases h6 with h6 | h6
    · subst h6; exact hl b (List.mem_append_left _ hb) e0 v0 h3 h4 (by omega)
    · exact hl b0 (List.mem_append_right _ h6) e0 v0 h3 h4 (by omega)
  img b3 e3 v3 h1 h2 h3 := by
    obtain ⟨b2, e2, v2, h4, h5, h6, h7⟩ := k.img b3 e3 v3 h1 h2 (Nat.lt_of_lt_of_le h3 h.size)
    obtain ⟨b1, e1, v1, h8, h9, h10, h11⟩ := h.img b2 e2 v2 h4 h5 (by omega)
    refine ⟨b1, e1, v1, h8, h9, by omega, ?_⟩
    rcases h7 with h7 | h7
    · rcases h11 with h11 | h11
      · exact .inl (h7.trans h11)
      · exact .inr (List.mem_append_right _ h11)
    · rcases h11 with h11 | h11
      · exact .inr (List.mem_append_left _ (h11 ▸ h7))
      · exact .inr (List.mem_append_right _ h11)
end
end Go.Rx
