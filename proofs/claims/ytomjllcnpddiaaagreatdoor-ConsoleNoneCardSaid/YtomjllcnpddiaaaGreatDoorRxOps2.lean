/- Operations of the model: slices, addresses, indexes, aggregates. -/
import Derived.Test.YtomjllcnpddiaaaGreatDoorRxOps1
set_option linter.unusedSimpArgs false
set_option linter.unusedVariables false
set_option linter.unusedSectionVars false
namespace Go.Rx
open Go

section
variable {d : TypeDesc} {e k : TypeId} {n : Nat}
theorem TD.of_slice (h : TD.of d = .slice e) : d = .slice e := by cases d <;> simp [TD.of] at h; subst h; rfl
theorem TD.of_array (h : TD.of d = .array n e) : d = .array n e := by cases d <;> simp [TD.of] at h; obtain ⟨rfl, rfl⟩ := h; rfl
theorem TD.of_pointer (h : TD.of d = .pointer e) : d = .pointer e := by cases d <;> simp [TD.of] at h; subst h; rfl
theorem TD.of_map (h : TD.of d = .map k e) : d = .map k e := by cases d <;> simp [TD.of] at h; obtain ⟨rfl, rfl⟩ := h; rfl
theorem TD.of_string (h : TD.of d = .string) : d = .string := by cases d <;> simp [TD.of] at h; rfl
theorem TD.of_bool (h : TD.of d = .bool) : d = .bool := by cases d <;> simp [TD.of] at h; rfl
theorem TD.of_int {q : IntKind} (h : TD.of d = .int q) : d = .int q := by cases d <;> simp [TD.of] at h; subst h; rfl
theorem TD.of_unsafe (h : TD.of d = .unsafePointer) : d = .unsafePointer := by cases d <;> simp [TD.of] at h; rfl
theorem TD.of_struct {fs : List (Nat × TypeId)} (h : TD.of d = .struct fs) : ∃ f, d = .struct f ∧ f.toList.map (fun f => (f.offset, f.type)) = fs := by
  cases d <;> simp [TD.of] at h; exact ⟨_, rfl, h⟩
theorem TD.of_func (h : TD.of d = .func) : ∃ a b c, d = .func a b c := by cases d <;> simp [TD.of] at h; exact ⟨_, _, _, rfl⟩
theorem TD.of_interface (h : TD.of d = .interface) : ∃ a, d = .interface a := by cases d <;> simp [TD.of] at h; exact ⟨_, rfl⟩
end

section
variable {P : Program} {E : Env} {ρ : Ren} {w : World}

/-- An optional operand. -/
def OV (ρ : Ren) (x x' : Option Value) : Prop := (∀ v, x = some v → ∃ v', x' = some v' ∧ VR ρ v v') ∧ (x = none → x' = none)

theorem beq_of {a b : Nat} (h : a = b) : Nat.beq a b = true := by subst h; exact Nat.beq_refl a
theorem beq_ne {a b : Nat} (h : a ≠ b) : Nat.beq a b = false := by
  cases hb : Nat.beq a b with
  | false => rfl
  | true => exact absurd (Nat.eq_of_beq_eq_true hb) h

theorem sliceA_sound (hE : E.Ok P) {t : TypeId} {x x' v : Value} {lo hi mx lo' hi' mx' : Option Value} (h : sliceA E t x lo hi mx = some v) (hx : VR ρ x x')
    (hlo : OV ρ lo lo') (hhi : OV ρ hi hi') (hmx : OV ρ mx mx') : ∃ v', VR ρ v v' ∧ (Instr.sliceAt t x' lo' hi' mx').run P w = .ok v' w := by
  unfold sliceA at h
  rw [ob_eq_some] at h
  obtain ⟨i, hi1, h⟩ := h
  have ht := hE.ty t i hi1
  obtain ⟨d, hd, hu⟩ := ht.run_under (w := w)
  split at h
  · -- a slice
    rename_i e a len cap hdesc
    rw [hdesc] at hd
    have hd' := TD.of_slice hd
    subst hd'
    rw [ob_eq_some] at h
    obtain ⟨⟨l, hh, m⟩, hb, h⟩ := h
    rw [ob_eq_some] at h
    obtain ⟨ei, hei, h⟩ := h
    have hte := hE.ty e ei hei
    -- the real slice
    have real : ∀ (a' : Addr) (cap' m' : Nat), x' = .slice (some a') len cap' → (Instr.sliceBounds true len cap' lo' hi' mx').run P w = .ok (l, hh, m') w →
        (Instr.sliceAt t x' lo' hi' mx').run P w = .ok (.slice (some (if m' = l then a' else a'.add (l * ei.size))) (hh - l) (m' - l)) w := by
      intro a' cap' m' hx1 hbr
      subst hx1
      simp only [Instr.sliceAt, hu, Sem.run_bind, Result.andThen_ok, Instr.slice, hbr, hte.run_size, Sem.run_pure]
      congr 2
      split <;> rfl
    obtain ⟨blk, off, sp⟩ := a
    -- where the capacity is known from here on
    have key : sel (Nat.beq m l) (some (.slice (some ⟨blk, off, none⟩) 0 0)) (some (.slice (some ⟨blk, Nat.add off (Nat.mul l ei.size), none⟩) (Nat.sub hh l) (Nat.sub m l))) = some v →
        ∀ (a' : Addr) (cap' : Nat), x' = .slice (some a') len cap' → cap ≤ cap' → (mx = none → cap = cap') →
        (cap' ≠ 0 → ∃ u, ρ blk = some u ∧ a' = ⟨u.blk, u.base + off, none⟩) →
        ∃ v', VR ρ v v' ∧ (Instr.sliceAt t x' lo' hi' mx').run P w = .ok v' w := by
      intro h a' cap' hx1 hc hcc hadr
      obtain ⟨m', hbr, h1, h2, h3, h4⟩ := bounds_sound (P := P) (w := w) (isSlice := true) hb hc hlo.1 hlo.2 hhi.1 hhi.2 hmx.1 hmx.2
      have hmm : m' = m := by
        rcases h4 with ⟨h5, h6, h7⟩ | ⟨_, h6⟩
        · have := hcc h5; omega
        · exact h6
      subst hmm
      refine ⟨_, ?_, real _ _ _ hx1 hbr⟩
      by_cases hl : m' = l
      · rw [if_pos hl]
        rw [beq_of hl, sel_true] at h
        cases h
        rw [show hh - l = 0 by omega, show m' - l = 0 by omega]
        exact .zero _ _
      · rw [if_neg hl]
        rw [beq_ne hl, sel_false] at h
        cases h
        obtain ⟨u, hu1, hu2⟩ := hadr (by omega)
        rw [hu2, add_plain, show u.base + off + l * ei.size = u.base + (off + l * ei.size) by omega]
        exact .slice hu1
    cases sp with
    | none =>
      have h' := key (by cases mx <;> exact h)
      cases hx with
      | slice hρ => exact h' _ _ rfl (Nat.le_refl _) (fun _ => rfl) (fun _ => ⟨_, hρ, rfl⟩)
      | zero _ a' => exact h' _ _ rfl (Nat.le_refl _) (fun _ => rfl) (fun hne => absurd rfl hne)
    | some es =>
      cases hmxe : mx with
      | some q =>
        rw [hmxe] at h
        have h' := key h
        rw [hmxe] at h'
        cases hx with
        | openS hρ hc ha => exact h' _ _ rfl hc (fun hm => by cases hm) (fun _ => ⟨_, hρ, rfl⟩)
        | zero _ a' => exact h' _ _ rfl (Nat.le_refl _) (fun _ => rfl) (fun hne => absurd rfl hne)
      | none =>
        rw [hmxe] at h
        simp only at h
        rw [chk_eq_some] at h
        obtain ⟨hes, h⟩ := h
        have hes' := Nat.eq_of_beq_eq_true hes
        cases h
        cases hx with
        | openS hρ hc ha =>
          rename_i cap' u
          obtain ⟨m', hbr, h1, h2, h3, h4⟩ := bounds_sound (P := P) (w := w) (isSlice := true) hb hc hlo.1 hlo.2 hhi.1 hhi.2 hmx.1 hmx.2
          rcases h4 with ⟨_, h5, h6⟩ | ⟨h5, _⟩
          · subst h5; subst h6
            refine ⟨_, ?_, real _ _ _ rfl hbr⟩
            by_cases hl : m' = l
            · rw [if_pos hl]
              have e1 : hh - l = 0 := by omega
              have e2 : m' - l = 0 := by omega
              have e3 : m - l = 0 := by omega
              rw [show Nat.sub hh l = 0 from e1, show Nat.sub m l = 0 from e3, e1, e2]
              exact .zero _ _
            · rw [if_neg hl, add_plain]
              rw [show u.base + off + l * ei.size = u.base + (off + l * ei.size) by omega]
              refine .openS hρ (Nat.sub_le_sub_right hc l) ?_
              show off + l * ei.size + (m' - l) * es ≤ u.avail
              rw [← hes', Nat.add_assoc, ← Nat.add_mul, show l + (m' - l) = m' by omega]
              exact ha
          · exact absurd hmxe h5
        | zero _ a' =>
          obtain ⟨m', hbr, h1, h2, h3, h4⟩ := bounds_sound (P := P) (w := w) (isSlice := true) hb (Nat.le_refl 0) hlo.1 hlo.2 hhi.1 hhi.2 hmx.1 hmx.2
          rcases h4 with ⟨_, h5, h6⟩ | ⟨h5, _⟩
          · subst h5; subst h6
            refine ⟨_, ?_, real _ _ _ rfl hbr⟩
            have e0 : l = 0 := by omega
            have e1 : hh = 0 := by omega
            subst e0; subst e1
            exact .zero _ _
          · exact absurd hmxe h5
  · -- a nil slice
    rename_i e hdesc
    rw [hdesc] at hd
    have hd' := TD.of_slice hd
    subst hd'
    rw [ob_eq_some] at h
    obtain ⟨ei, hei, h⟩ := h
    have hte := hE.ty e ei hei
    rw [ob_eq_some] at h
    obtain ⟨⟨l, hh, m⟩, hb, h⟩ := h
    cases h
    cases hx
    obtain ⟨m', hbr, h1, h2, h3, h4⟩ := bounds_sound (P := P) (w := w) (isSlice := true) hb (Nat.le_refl 0) hlo.1 hlo.2 hhi.1 hhi.2 hmx.1 hmx.2
    have e1 : m' = 0 := by rcases h4 with ⟨_, h5, h6⟩ | ⟨_, h6⟩ <;> omega
    have e2 : hh = 0 := by omega
    have e3 : l = 0 := by omega
    subst e1; subst e2; subst e3
    refine ⟨_, .nilSlice, ?_⟩
    simp [Instr.sliceAt, hu, Instr.slice, hbr, hte.run_size]
  · -- an array behind an address
    rename_i n e a hdesc
    rw [hdesc] at hd
    have hd' := TD.of_array hd
    subst hd'
    rw [ob_eq_some] at h
    obtain ⟨⟨l, hh, m⟩, hb, h⟩ := h
    rw [ob_eq_some] at h
    obtain ⟨ei, hei, h⟩ := h
    have hte := hE.ty e ei hei
    rw [chk_eq_some] at h
    obtain ⟨hpl, h⟩ := h
    cases h
    cases hx with
    | ptr hρ =>
      rename_i b off u
      obtain ⟨m', hbr, h1, h2, h3, h4⟩ := bounds_sound (P := P) (w := w) (isSlice := false) hb (Nat.le_refl n) hlo.1 hlo.2 hhi.1 hhi.2 hmx.1 hmx.2
      have hmm : m' = m := by rcases h4 with ⟨_, h5, h6⟩ | ⟨_, h6⟩ <;> omega
      subst hmm
      refine ⟨.slice (some (if m' = l then ⟨u.blk, u.base + off, none⟩ else (⟨u.blk, u.base + off, none⟩ : Addr).add (l * ei.size))) (hh - l) (m' - l), ?_, ?_⟩
      · by_cases hl : m' = l
        · rw [if_pos hl]
          simp only [beq_of hl, sel_true]
          exact .slice hρ
        · rw [if_neg hl, add_plain]
          simp only [beq_ne hl, sel_false]
          rw [show u.base + off + l * ei.size = u.base + (off + l * ei.size) by omega]
          exact .slice hρ
      · simp [Instr.sliceAt, hu, Instr.sureAddr, hbr, hte.run_size]
  · -- a string
    rename_i str hdesc
    rw [hdesc] at hd
    have hd' := TD.of_string hd
    subst hd'
    cases hmxe : mx with
    | some q => rw [hmxe] at h; simp at h
    | none =>
      rw [hmxe] at h
      simp only at h
      rw [ob_eq_some] at h
      obtain ⟨⟨l, hh, m⟩, hb, h⟩ := h
      cases h
      cases hx
      have hmn : mx' = none := hmx.2 hmxe
      obtain ⟨m', hbr, h1, h2, h3, h4⟩ := bounds_sound (P := P) (w := w) (isSlice := false) (mx := none) (mx' := none) hb (Nat.le_refl str.size) hlo.1 hlo.2 hhi.1 hhi.2 (fun v hv => by cases hv) (fun _ => rfl)
      refine ⟨_, .string _, ?_⟩
      simp [Instr.sliceAt, hu, Instr.slice, hmn, hbr]
  · cases h

theorem indexAddrA_sound (hE : E.Ok P) {t : TypeId} {x x' ix ix' v : Value} (h : indexAddrA E t x ix = some v) (hx : VR ρ x x') (hi : VR ρ ix ix') :
    ∃ v', VR ρ v v' ∧ (Instr.indexAt t x' ix').run P w = .ok v' w := by
  unfold indexAddrA at h
  rw [ob_eq_some] at h
  obtain ⟨ti, hti, h⟩ := h
  have ht := hE.ty t ti hti
  obtain ⟨d, hd, hu⟩ := ht.run_under (w := w)
  split at h
  · rename_i k i
    cases hi
    split at h
    · rename_i n e a hdesc
      rw [hdesc] at hd
      have hd' := TD.of_array hd
      subst hd'
      rw [ob_eq_some] at h
      obtain ⟨ei, hei, h⟩ := h
      have hte := hE.ty e ei hei
      rw [chk_eq_some, chk_eq_some] at h
      obtain ⟨hpl, h2, h⟩ := h
      have hlt : i < n := Nat.le_of_ble_eq_true h2
      cases h
      cases hx with
      | ptr hρ =>
        rename_i b off u
        refine ⟨_, .ptr hρ, ?_⟩
        have hc : (0 : Int) ≤ (i : Int) ∧ (i : Int) < (n : Int) := by omega
        simp [Instr.indexAt, asIntOf, hu, Instr.sureAddr, hlt, hte.run_size, add_plain, Nat.add_assoc]
    · rename_i e a len cap hdesc
      rw [hdesc] at hd
      have hd' := TD.of_slice hd
      subst hd'
      rw [ob_eq_some] at h
      obtain ⟨ei, hei, h⟩ := h
      have hte := hE.ty e ei hei
      rw [chk_eq_some] at h
      obtain ⟨h2, h⟩ := h
      have hlt : i < len := Nat.le_of_ble_eq_true h2
      cases h
      have key : ∀ (u : View) (cap' : Nat), (Instr.indexAt t (.slice (some ⟨u.blk, u.base + a.off, none⟩) len cap') (.int k (.ofNat i))).run P w = .ok (.pointer (some ⟨u.blk, u.base + (a.off + i * ei.size), none⟩)) w := by
        intro u cap'
        simp [Instr.indexAt, asIntOf, hu, hlt, hte.run_size, add_plain, Nat.add_assoc]
      cases hx with
      | slice hρ => exact ⟨_, .ptr hρ, key _ _⟩
      | openS hρ hc ha => exact ⟨_, .ptr hρ, key _ _⟩
      | zero _ _ => exact absurd hlt (Nat.not_lt_zero _)
    · cases h
  · cases h

/-! ### Aggregates -/
theorem get_splice {l v : List Value} {off : Nat} (h : off + v.length ≤ l.length) (i : Nat) : (l.take off ++ v ++ l.drop (off + v.length))[i]? = if off ≤ i ∧ i < off + v.length then v[i - off]? else l[i]? := by
  by_cases h1 : i < off
  · rw [if_neg (by omega), List.append_assoc, List.getElem?_append_left (by simp; omega), List.getElem?_take, if_pos h1]
  · by_cases h2 : i < off + v.length
    · rw [if_pos (by omega), List.append_assoc, List.getElem?_append_right (by simp; omega), List.length_take, Nat.min_eq_left (by omega), List.getElem?_append_left (by omega)]
    · rw [if_neg (by omega), List.getElem?_append_right (by simp; omega), List.getElem?_drop]
      congr 1
      simp; omega

/-- The model's own way of laying a part. -/
theorem foldl_zipIdx (v : List Value) : ∀ (off k : Nat) (cs : Array Value), off + k + v.length ≤ cs.size →
    ((v.zipIdx k).foldl (fun cs (x : Value × Nat) => cs.setIfInBounds (off + x.2) x.1) cs).toList = cs.toList.take (off + k) ++ v ++ cs.toList.drop (off + k + v.length) := by
  induction v with
  | nil => intro off k cs _; simp
  | cons a v ih =>
    intro off k cs h
    simp only [List.length_cons] at h
    simp only [List.zipIdx_cons, List.foldl_cons]
    rw [ih off (k + 1) _ (by simp; omega)]
    apply List.ext_getElem?
    intro i
    have hsz : (cs.setIfInBounds (off + k) a).toList.length = cs.toList.length := by simp
    rw [show off + (k + 1) = off + k + 1 by omega, get_splice (by simp; omega), show off + k + (a :: v).length = off + k + (a :: v).length from rfl, get_splice (by simp; omega)]
    simp only [List.length_cons]
    by_cases h1 : off + k + 1 ≤ i ∧ i < off + k + 1 + v.length
    · rw [if_pos h1, if_pos (by omega), show i - (off + k) = (i - (off + k + 1)) + 1 by omega]
      simp
    · rw [if_neg h1]
      by_cases h2 : i = off + k
      · subst h2
        rw [if_pos (by omega)]
        simp [show off + k < cs.size by omega]
      · rw [if_neg (by omega)]
        simp only [Array.toList_setIfInBounds]
        rw [List.getElem?_set_ne (by omega)]

theorem fill_sound {pl pl' : Nat → Option (Nat × Nat)} (hp : ∀ i q, pl i = some q → pl' i = some q) : ∀ {ps ps' : List (Nat × Value)} {cs cs' r : List Value}, PL ρ ps ps' → VL ρ cs cs' →
    fillA pl cs ps = some r → ∃ r', Instr.fill pl' ⟨cs'⟩ ps' = some ⟨r'⟩ ∧ VL ρ r r' ∧ r.length = cs.length := by
  intro ps ps' cs cs' r h
  induction h generalizing cs cs' with
  | nil => intro hc hf; cases hf; exact ⟨cs', rfl, hc, rfl⟩
  | cons hv _ ih =>
    rename_i i v v' l l' _
    intro hc hf
    simp only [fillA] at hf
    rw [ob_eq_some] at hf
    obtain ⟨⟨off, size⟩, hq, hf⟩ := hf
    rw [chk_eq_some, chk_eq_some] at hf
    obtain ⟨h1, h2, hf⟩ := hf
    rw [lengthn_eq] at h1 h2
    have h1' := Nat.eq_of_beq_eq_true h1
    have h2' : off + size ≤ cs.length := Nat.le_of_ble_eq_true h2
    simp only at h1'
    have hcl := hv.cells.length
    have hlen := hc.length
    rw [splice_eq _ _ _ (by omega)] at hf
    have hvl := VL.splice hv.cells hc off
    obtain ⟨r', g1, g2, g3⟩ := ih hvl hf
    refine ⟨r', ?_, g2, ?_⟩
    · simp only [Instr.fill, hp i _ hq]
      have hsz : v'.cells.size = size := by rw [← Array.length_toList, ← hcl, h1']
      rw [if_neg (by simp [hsz]; omega)]
      have : (Array.foldl (fun cs (x : Value × Nat) => cs.setIfInBounds (off + x.2) x.1) (⟨cs'⟩ : Array Value) v'.cells.zipIdx) = ⟨cs'.take off ++ v'.cells.toList ++ cs'.drop (off + v'.cells.toList.length)⟩ := by
        apply Array.ext'
        rw [← Array.foldl_toList, Array.toList_zipIdx]
        have := foldl_zipIdx v'.cells.toList off 0 ⟨cs'⟩ (by simp [hsz]; omega)
        simpa using this
      rw [this]
      exact g1
    · rw [g3]
      simp only [List.length_append, List.length_take, List.length_drop]
      omega
end
end Go.Rx
