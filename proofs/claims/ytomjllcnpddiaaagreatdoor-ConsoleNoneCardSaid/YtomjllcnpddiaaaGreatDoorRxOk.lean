/- An environment's facts, gathered. -/
import Derived.Test.YtomjllcnpddiaaaGreatDoorRxRun2
import Derived.Laws.Externs
import Derived.Lib.MakeNoZero
set_option linter.unusedSimpArgs false
set_option linter.unusedVariables false
set_option linter.unusedSectionVars false
namespace Go.Rx
open Go

/-- Of every entry of a trie. -/
def PT.AllP {α : Type} (p : Nat → α → Prop) : PT α → (Nat → Nat) → Prop
  | .leaf, _ => True
  | .node none l r, g => AllP p l (fun k => g (2 * k + 1)) ∧ AllP p r (fun k => g (2 * k + 2))
  | .node (some a) l r, g => p (g 0) a ∧ AllP p l (fun k => g (2 * k + 1)) ∧ AllP p r (fun k => g (2 * k + 2))
theorem PT.all_get {α : Type} {p : Nat → α → Prop} : ∀ {t : PT α} {g : Nat → Nat}, PT.AllP p t g → ∀ {k : Nat} {a : α}, t.get k = some a → p (g k) a := by
  intro t
  induction t with
  | leaf => intro g _ k a h; rw [PT.get_leaf] at h; cases h
  | node v l r ihl ihr =>
    intro g h k a hk
    rw [PT.get_node] at hk
    have hl : PT.AllP p l (fun k => g (2 * k + 1)) := by cases v with | none => exact h.1 | some _ => exact h.2.1
    have hr : PT.AllP p r (fun k => g (2 * k + 2)) := by cases v with | none => exact h.2 | some _ => exact h.2.2
    by_cases h0 : k = 0
    · subst h0
      rw [if_pos rfl] at hk
      subst hk
      exact h.1
    · rw [if_neg h0] at hk
      by_cases h1 : k % 2 = 1
      · rw [if_pos h1] at hk
        have := ihl hl hk
        simp only [show 2 * (k / 2) + 1 = k by omega] at this
        exact this
      · rw [if_neg h1] at hk
        have := ihr hr hk
        simp only [show 2 * (k / 2 - 1) + 2 = k by omega] at this
        exact this

section
variable {P : Program} {t : TypeId} {i : TI}
theorem TyOk.of {d : TypeDesc} (hu : P.underlying t = some d) (hd : TD.of d = i.desc) (hi : (P.info? t).map (fun f => (f.size, f.bytes, f.zero)) = some (i.size, i.bytes, some (zeroV i)))
    (h1 : i.zero.length = i.size) (h2 : i.zero.all scalar = true) (h3 : (i.desc.agg || i.size == 1) = true) : TyOk P t i := by
  refine ⟨⟨d, hu, hd⟩, ?_, h1, h2, fun h => ?_⟩
  · cases hf : P.info? t with
    | none => rw [hf] at hi; cases hi
    | some f =>
      rw [hf] at hi
      simp only [Option.map_some, Option.some.injEq, Prod.mk.injEq] at hi
      exact ⟨f, rfl, hi.1, hi.2.1, hi.2.2⟩
  · rw [h] at h3
    simpa using h3

/-! ### Functions without a body -/
noncomputable def findByte (c : Nat) (l : List UInt8) : Nat → Int := List.rec (fun _ => -1) (fun b _ ih i => Bool.rec (ih (Nat.succ i)) (.ofNat i) (Nat.beq b.toNat c)) l
noncomputable def countByte (c : Nat) (l : List UInt8) : Nat → Nat := List.rec (fun n => n) (fun b _ ih n => Bool.rec (ih n) (ih (Nat.succ n)) (Nat.beq b.toNat c)) l

theorem findByte_eq (c : UInt8) : ∀ (l : List UInt8) (i : Nat), findByte c.toNat l i = match l.findIdx? (· == c) with | some j => ((i + j : Nat) : Int) | none => -1 := by
  intro l
  induction l with
  | nil => intro i; rfl
  | cons b l ih =>
    intro i
    show (Bool.rec (findByte c.toNat l (i + 1)) (.ofNat i) (Nat.beq b.toNat c.toNat) : Int) = _
    rw [List.findIdx?_cons]
    by_cases h : b = c
    · subst h
      rw [beq_of rfl]
      simp
    · have hne : b.toNat ≠ c.toNat := fun he => h (UInt8.toNat_inj.1 he)
      rw [beq_ne hne, ih]
      have : (b == c) = false := by simpa using h
      rw [this]
      simp only [Bool.false_eq_true, if_false]
      cases l.findIdx? (· == c) with
      | none => rfl
      | some j =>
        simp only [Option.map_some]
        show ((i + 1 + j : Nat) : Int) = ((i + (j + 1) : Nat) : Int)
        rw [show i + 1 + j = i + (j + 1) by omega]

theorem countByte_eq (c : UInt8) : ∀ (l : List UInt8) (n : Nat), countByte c.toNat l n = l.foldl (fun n x => if x == c then n + 1 else n) n := by
  intro l
  induction l with
  | nil => intro n; rfl
  | cons b l ih =>
    intro n
    show (Bool.rec (countByte c.toNat l n) (countByte c.toNat l (n + 1)) (Nat.beq b.toNat c.toNat) : Nat) = _
    rw [List.foldl_cons]
    by_cases h : b = c
    · subst h
      rw [beq_of rfl]
      simp [ih]
    · have hne : b.toNat ≠ c.toNat := fun he => h (UInt8.toNat_inj.1 he)
      have : (b == c) = false := by simpa using h
      rw [beq_ne hne, this]
      simp [ih]

theorem bytes_foldl_go {β : Type} (g : β → UInt8 → β) (s : ByteArray) : ∀ (i j : Nat) (acc : β), i = s.size - j → j ≤ s.size →
    (ByteArray.foldlM.loop (β := β) (fun a b => (pure (g a b) : _root_.Id β)) s s.size (Nat.le_refl _) i j acc).run = (s.data.toList.drop j).foldl g acc := by
  intro i
  induction i with
  | zero =>
    intro j acc hi hj
    unfold ByteArray.foldlM.loop
    have hd : s.data.toList.drop j = [] := by
      apply List.drop_eq_nil_of_le
      have : s.data.toList.length = s.size := by simp
      omega
    rw [hd]
    split <;> rfl
  | succ i ih =>
    intro j acc hi hj
    unfold ByteArray.foldlM.loop
    have hlt : j < s.size := by omega
    have hlt' : j < s.data.toList.length := by simpa using hlt
    rw [dif_pos hlt]
    rw [List.drop_eq_getElem_cons hlt', List.foldl_cons]
    exact ih (j + 1) _ (by omega) (by omega)
theorem bytes_foldl {β : Type} (g : β → UInt8 → β) (s : ByteArray) (z : β) : s.foldl g z = s.data.toList.foldl g z := by
  unfold ByteArray.foldl ByteArray.foldlM
  simp only [Nat.le_refl, dif_pos, Nat.sub_zero]
  have := bytes_foldl_go g s s.size 0 z (by omega) (by omega)
  rw [List.drop_zero] at this
  exact this

theorem firstIdx_eq (s : ByteArray) (c : UInt8) : firstIdx s c = findByte c.toNat s.data.toList 0 := by
  rw [findByte_eq]
  unfold firstIdx
  have key : (List.range s.size).find? (fun i => s[i]! == c) = s.data.toList.findIdx? (· == c) := by
    have hget : ∀ i, i < s.size → s[i]! = s.data.toList[i]! := by
      intro i hi
      have hi' : i < s.data.toList.length := by simpa using hi
      rw [getElem!_pos s i hi, getElem!_pos s.data.toList i hi']
      rfl
    cases hf : s.data.toList.findIdx? (· == c) with
    | none =>
      rw [List.find?_eq_none]
      intro i hi
      rw [List.mem_range] at hi
      rw [List.findIdx?_eq_none_iff] at hf
      have hi' : i < s.data.toList.length := by simpa using hi
      rw [hget i hi, getElem!_pos s.data.toList i hi']
      have := hf _ (List.getElem_mem hi')
      simpa using this
    | some j =>
      rw [List.findIdx?_eq_some_iff_getElem] at hf
      obtain ⟨hj, h1, h2⟩ := hf
      rw [List.find?_range_eq_some]
      have hj' : j < s.size := by simpa using hj
      refine ⟨?_, ?_, ?_⟩
      · rw [hget j hj', getElem!_pos s.data.toList j hj]; exact h1
      · exact List.mem_range.2 hj'
      · intro k hk
        have hk' : k < s.data.toList.length := by omega
        rw [hget k (by omega), getElem!_pos s.data.toList k hk']
        have := h2 k hk
        simpa using this
  rw [key]
  cases s.data.toList.findIdx? (· == c) with
  | none => rfl
  | some j => simp

variable {f : FuncId} {fn : Func}

theorem ext_indexByte {e : Array Value → Sem Value} (hf : P.funcs[f]? = some fn) (hname : (fn.name == "runtime.NumGoroutine") = false) (hb : fn.body.isNone = true) (hn : Extern.findNext fn = none) (he : Extern.find fn = some e) (hee : e = Extern.BytealgIndexByte.indexByte)
    (s : ByteArray) (c : Int) (w : World) : (callFunc f #[.string s, .int .u8 c]).run P w = .ok (.value (.int .i64 (findByte (c.toNat % 256) s.data.toList 0))) w := by
  subst hee
  rw [run_callFunc_extern hf hname hb hn he, run_indexByte_string, firstIdx_eq]
  simp only [Result.andThen]
  have : c.toNat.toUInt8.toNat = c.toNat % 256 := by simp
  rw [this]

theorem ext_count {e : Array Value → Sem Value} (hf : P.funcs[f]? = some fn) (hname : (fn.name == "runtime.NumGoroutine") = false) (hb : fn.body.isNone = true) (hn : Extern.findNext fn = none) (he : Extern.find fn = some e) (hee : e = Extern.BytealgCount.count)
    (s : ByteArray) (c : Int) (w : World) : (callFunc f #[.string s, .int .u8 c]).run P w = .ok (.value (.int .i64 (.ofNat (countByte (c.toNat % 256) s.data.toList 0)))) w := by
  subst hee
  rw [run_callFunc_extern hf hname hb hn he]
  have h1 : (Extern.BytealgCount.count #[.string s, .int .u8 c]).run P w = .ok (goInt (s.foldl (fun (n : Int) x => if x == c.toNat.toUInt8 then n + 1 else n) ((0 : Nat) : Int))) w := rfl
  rw [h1]
  simp only [Result.andThen]
  have h2 : c.toNat.toUInt8.toNat = c.toNat % 256 := by simp
  rw [← h2, countByte_eq, bytes_foldl]
  have h3 : ∀ (l : List UInt8) (n : Nat), l.foldl (fun (n : Int) x => if x == c.toNat.toUInt8 then n + 1 else n) (n : Int) = ((l.foldl (fun (n : Nat) x => if x == c.toNat.toUInt8 then n + 1 else n) n : Nat) : Int) := by
    intro l
    induction l with
    | nil => intro n; rfl
    | cons x l ih =>
      intro n
      simp only [List.foldl_cons]
      split
      · have := ih (n + 1)
        rw [← this]
        rfl
      · exact ih n
  rw [h3]
  rfl

theorem ext_same {e : Array Value → Sem Value} (hf : P.funcs[f]? = some fn) (hname : (fn.name == "runtime.NumGoroutine") = false) (hb : fn.body.isNone = true) (hn : Extern.findNext fn = none) (he : Extern.find fn = some e) (hee : e = Extern.AbiNoEscape.same)
    (x : Value) (w : World) : (callFunc f #[x]).run P w = .ok (.value x) w := by
  subst hee
  rw [run_callFunc_extern hf hname hb hn he]
  rfl

theorem ext_noZero {t e : TypeId} {en : Array Value → Sem Value} {ps : Array TypeId} (hf : P.funcs[f]? = some fn) (hname : (fn.name == "runtime.NumGoroutine") = false) (hb : fn.body.isNone = true) (hn : Extern.findNext fn = none) (he : Extern.find fn = some en)
    (hee : en = Extern.BytealgMakeNoZero.makeNoZero ps #[t]) (ht : P.underlying t = some (.slice e)) (n : Nat) (w : World) (hle : n ≤ 1048576) :
    ∃ (cap d : Nat) (c : Array Value), n ≤ cap ∧ c.size = cap ∧ (callFunc f #[.int .i64 (.ofNat n)]).run P w = .ok (.value (.slice (some ⟨w.heap.size, 0, none⟩) n cap)) ({ w with drawn := d }.alloc (.cells c e)) := by
  subst hee
  obtain ⟨cs, h1, h2, _⟩ := Lib.run_makeNoZero (P := P) w ps t e ht n (by omega)
  refine ⟨cs.size, w.drawn + 1 + 1, cs, h2, rfl, ?_⟩
  rw [run_callFunc_extern hf hname hb hn he]
  have h1' : (Extern.BytealgMakeNoZero.makeNoZero ps #[t] #[.int .i64 (.ofNat n)]).run P w = _ := h1
  rw [h1']
  rfl

/-! ### Bytes in a row of bytes -/
theorem byteRow_ok {e : TypeId} (hc : P.cellsOf e = 1) (hd : 0 < P.depth) (count off n : Nat) (h : off + n ≤ count) : liesAt P P.depth e count off e n = true := by
  obtain ⟨d, hd'⟩ : ∃ d, P.depth = d + 1 := ⟨P.depth - 1, by omega⟩
  have hsame : sameLayout P P.depth e e = true := by rw [hd']; simp [sameLayout]
  have hrow : rowAt P (sameLayout P P.depth · e) P.depth e count off n = true := by
    generalize hg : (sameLayout P P.depth · e) = g
    have hge : g e = true := by rw [← hg]; exact hsame
    rw [hd']
    simp [rowAt, hc, h, hge, Nat.mod_one]
  generalize hD : P.depth = D at hrow
  rw [hD] at hd'
  subst hd'
  unfold liesAt
  rw [hD, hrow]
  rfl
end
end Go.Rx
