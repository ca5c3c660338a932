/- A region of open order: one operation more; every order. -/
import Derived.Test.YtomjllcnpddiaaaGreatDoorRxDraw3
set_option linter.unusedSimpArgs false
set_option linter.unusedVariables false
set_option linter.unusedSectionVars false
namespace Go.Rx
open Go

section
variable {P : Program} {E : Env} {rec : Rec} {G : Nat} {ops : Array Oper} {S : Nat → St} {T : Nat → List Value} {V : Nat → Value} {R : Nat → Rec1} {ρ0 : Ren} {w0 : World}

def dstOf (ops : Array Oper) (i : Nat) : Option Tmp := (ops[i]?).bind (·.dst)

theorem dstOf_eq {i : Nat} {o : Oper} (h : ops[i]? = some o) : dstOf ops i = o.dst := by simp [dstOf, h]

/-- What the evaluator has found of the region. -/
structure Found (P : Program) (E : Env) (rec : Rec) (ops : Array Oper) (S : Nat → St) (T : Nat → List Value) (V : Nat → Value) (R : Nat → Rec1) : Prop where
  tr : Trace P E rec ops.toList (masks [] ops.toList) 0 [] ops.toList S T V R
  edge : edgesOk 0 ops.toList = true
  tmps : tmpsOkGo ops.toList (masks [] ops.toList) [] ops.toList = true

section
variable (F : Found P E rec ops S T V R)
include F
theorem Found.at' {i : Nat} (hi : i < ops.size) : ops.toList[i]? = some ops[i] := by simp [hi]
theorem Found.op {i : Nat} {o : Oper} (ho : ops[i]? = some o) : OpTr P E rec ops.toList (S i) (S (i + 1)) (T i) (T (i + 1)) (V i) (R i) o := F.tr.op i o (by simpa using ho)
theorem Found.hi {i : Nat} (hi : i < ops.size) : (R i).hi = (S (i + 1)).next := (F.tr.op i _ (F.at' hi)).hi
theorem Found.lo {i : Nat} (hi : i < ops.size) : (R i).lo = (S i).next := (F.tr.op i _ (F.at' hi)).lo
theorem Found.puts {i : Nat} (hi : i < ops.size) : T (i + 1) = putT (T i) (dstOf ops i) (V i) := by
  rw [(F.tr.op i _ (F.at' hi)).tm, dstOf_eq (o := ops[i]) (by simp [hi])]
theorem Found.log {i : Nat} (hi : i < ops.size) : (S (i + 1)).log = (R i).log ++ (S i).log := (F.tr.op i _ (F.at' hi)).log
theorem Found.pair {i j : Nat} (hj : j < i) (hi : i < ops.size) : Need ops.toList i j ∨ Free (R j) (R i) := by
  have h := F.tr.new i _ (F.at' hi) j hj
  rw [F.tr.mask i _ (F.at' hi)] at h
  simp only [Nat.zero_add] at h
  exact h
theorem Found.apart {i j : Nat} {o p : Oper} (hj : j < i) (ho : ops[i]? = some o) (hp : ops[j]? = some p) : Need ops.toList i j ∨ Apart ops.toList o p := by
  have h := tmpsOkGo_at ops.toList [] F.tmps i o (by simpa using ho) j p (by simpa using hp) (by simpa using hj)
  simp only [List.length_nil, Nat.zero_add] at h
  exact h.imp id apart_of
end

/-- A temporary that an operation names is as the evaluator has seen it. -/
theorem tmp_agree (F : Found P E rec ops S T V R) {x : Nat → Prop} {i : Nat} {o : Oper} (ho : ops[i]? = some o) (hxi : ¬ x i) (hneed : ∀ j, Need ops.toList i j → x j)
    (hdown : ∀ k, x k → ∀ j, Need ops.toList k j → x j) (hmono : ∀ j, j < i → (S j).next ≤ (S (j + 1)).next) {t : Tmp} (ht : t ∈ tmpsOf ops.toList o) (htl : t < (T 0).length) :
    curT x (T 0) V (dstOf ops) ops.size t = nthD undef (T i) t ∧ levT S R x (dstOf ops) ops.size t ≤ (S i).next := by
  have hi : i < ops.size := (Array.getElem?_eq_some_iff.1 ho).1
  obtain ⟨h1, h2⟩ := curT_late (S := S) (R := R) (x := x) (T0 := T 0) (V := V) (dst := dstOf ops) (t := t) (i := i) (n := ops.size) (Nat.le_of_lt hi) (by
    intro j hij hj hxj hd
    have hne : j ≠ i := fun h => hxi (h ▸ hxj)
    have hp : ops[j]? = some ops[j] := by simp [hj]
    rw [dstOf_eq hp] at hd
    rcases F.apart (show i < j by omega) hp ho with h | h
    · exact hxi (hdown j hxj i h)
    · exact (h.one t hd).1 ht)
  obtain ⟨h3, h4⟩ := curT_low (S := S) (R := R) (x := x) (T := T) (V := V) (dst := dstOf ops) (n := ops.size) (fun j hj => F.puts hj) htl (fun j hj => F.hi hj) (Nat.le_of_lt hi) hmono (by
    intro j hj hd
    have hp : ops[j]? = some ops[j] := by simp [show j < ops.size by omega]
    rw [dstOf_eq hp] at hd
    rcases F.apart hj ho hp with h | h
    · exact hneed j h
    · exact absurd ht (h.two t hd))
  exact ⟨by rw [h1, h3], by rw [h2]; exact h4⟩

theorem wanted_agree (F : Found P E rec ops S T V R) {x : Nat → Prop} {i : Nat} {o : Oper} (ho : ops[i]? = some o) (hxi : ¬ x i) (hneed : ∀ j, Need ops.toList i j → x j)
    (hdown : ∀ k, x k → ∀ j, Need ops.toList k j → x j) (hmono : ∀ j, j < i → (S j).next ≤ (S (j + 1)).next) {ρ : Ren} {w : World} {a : Act}
    (hinv : Inv ops.size S R (T 0) V (dstOf ops) ρ0 w0 x ρ w a.tmps.toList) : Region.wanted o (yielded ops a.tmps) = wantedA ops.toList (T i) o.guard := by
  have hi : i < ops.size := (Array.getElem?_eq_some_iff.1 ho).1
  unfold Region.wanted wantedA
  cases hg : o.guard with
  | none => rfl
  | some g =>
    obtain ⟨j, want⟩ := g
    have hy : yielded ops a.tmps j = yieldedA ops.toList (T i) j := by
      unfold yielded yieldedA
      rw [nth_eq]
      have h1 : ops.toList[j]? = ops[j]? := by simp
      rw [h1]
      cases hj : ops[j]? with
      | none => rfl
      | some o2 =>
        simp only [Option.bind_some, ob_some]
        cases hd : o2.dst with
        | none => rfl
        | some d =>
          simp only [Option.bind_some, ob_some, nth_eq]
          have hmem : d ∈ tmpsOf ops.toList o := by
            unfold tmpsOf
            rw [List.mem_append]
            right
            rw [hg]
            simp [hj, hd]
          have hTl := T_len (T := T) (n := ops.size) (dst := dstOf ops) (V := V) (fun j hj => F.puts hj) i (Nat.le_of_lt hi)
          by_cases hdl : d < (T 0).length
          · obtain ⟨h2, _⟩ := tmp_agree F ho hxi hneed hdown hmono hmem hdl
            obtain ⟨v', h3, h4⟩ := hinv.tm d hdl
            rw [h2] at h4
            have hlt : d < (T i).length := hTl ▸ hdl
            obtain ⟨u, h5⟩ : ∃ u, (T i)[d]? = some u := ⟨_, List.getElem?_eq_getElem hlt⟩
            rw [nthD_eq, h5] at h4
            have h3' : a.tmps[d]? = some v' := by simpa using h3
            rw [h3', h5]
            simp only [Option.getD_some] at h4
            cases h4 <;> rfl
          · have hge : (T 0).length ≤ d := Nat.not_lt.1 hdl
            have h3 : (T i)[d]? = none := by rw [List.getElem?_eq_none_iff, hTl]; exact hge
            have h4 : a.tmps[d]? = none := by
              rw [Array.getElem?_eq_none_iff, ← Array.length_toList, hinv.tlen]
              exact hge
            rw [h3, h4]
    simp only [hy]
    cases yieldedA ops.toList (T i) j with
    | none => rfl
    | some b => simp

set_option maxHeartbeats 1000000 in
/-- One operation more. 'm': so far it is known that the operations write nothing but what they say. -/
theorem more (F : Found P E rec ops S T V R) (hE : E.Ok P) (hng : E.ng ≤ G) (hrec : RecOk P G rec) (hr0 : Rep G ρ0 (S 0) w0) {x : Nat → Prop} {i m : Nat} {o : Oper} (ho : ops[i]? = some o) (him : i ≤ m)
    (hxi : ¬ x i) (hneed : ∀ j, Need ops.toList i j → x j) (hdown : ∀ k, x k → ∀ j, Need ops.toList k j → x j) (hloc : ∀ j, j < m → Loc S R j) (hxm : ∀ j, x j → j < m) {ρ : Ren} {w : World} {a : Act}
    (hinv : Inv ops.size S R (T 0) V (dstOf ops) ρ0 w0 x ρ w a.tmps.toList) (b : Frame) (rest : List Nat) (k : List Item) (cs : List Frame) :
    ∃ a' w' ρ', Steps P (lone (b.atR a (.inRegion ops (i :: rest) :: k)) cs w) (lone (b.atR a' (.inRegion ops rest :: k)) cs w') ∧ a'.defers = a.defers ∧
      Inv ops.size S R (T 0) V (dstOf ops) ρ0 w0 (fun k => x k ∨ k = i) ρ' w' a'.tmps.toList ∧ Loc S R i := by
  have hi : i < ops.size := (Array.getElem?_eq_some_iff.1 ho).1
  have hlocI : ∀ j, j < i → Loc S R j := fun j hj => hloc j (by omega)
  have hmonoI : ∀ j, j < i → (S j).next ≤ (S (j + 1)).next := fun j hj => (hlocI j hj).1
  have hw := wanted_agree F ho hxi hneed hdown hmonoI hinv
  have tr := F.op ho
  -- later operations that are done wait for none of this
  have later : ∀ j, i < j → j < ops.size → x j → Free (R i) (R j) := fun j hij hj hxj => (F.pair hij hj).resolve_left fun h => hxi (hdown j hxj i h)
  have hn1 : (S 0).next ≤ (S i).next := next_mono hloc (Nat.zero_le i) (by omega)
  -- what it writes, no later one does
  have hlate : ∀ n, W (R i) n → ∀ j, i < j → j < ops.size → x j → ¬ W (R j) n := by
    intro n hwn j hij hj hxj hwj
    have hf := later j hij hj hxj
    rcases hwn with hwn | hwn
    · exact hf.log' n hwn hwj
    · rcases hwj with hwj | hwj
      · exact hf.log n hwj (.inr hwn)
      · rw [F.lo hi, F.hi hi] at hwn
        rw [F.lo hj, F.hi hj] at hwj
        have := next_mono hloc (show i + 1 ≤ j from hij) (by have := hxm j hxj; omega)
        omega
  have hdl : ∀ t, dstOf ops i = some t → ∀ j, i < j → j < ops.size → x j → dstOf ops j ≠ some t := by
    intro t ht j hij hj hxj hd
    have hp : ops[j]? = some ops[j] := by simp [hj]
    rw [dstOf_eq hp] at hd
    rw [dstOf_eq ho] at ht
    rcases F.apart hij hp ho with h | h
    · exact hxi (hdown j hxj i h)
    · exact (h.one t hd).2 ht
  -- what it looks at is as the evaluator has seen it
  have agree : ∀ n, InDom (R i) n → cur S R x ops.size n = (S i).h.get n ∧ lev S R x ops.size n ≤ (S i).next := by
    intro n hn
    obtain ⟨h1, h2⟩ := cur_late (S := S) (R := R) (x := x) (b := n) (i := i) (n := ops.size) (Nat.le_of_lt hi) (by
      intro j hij hj hxj hwj
      have hne : j ≠ i := fun h => hxi (h ▸ hxj)
      exact (later j (by omega) hj hxj).dom' n hn hwj)
    obtain ⟨h3, h4⟩ := cur_low (S := S) (R := R) (x := x) (b := n) (i := i) (fun j hj => F.hi (by omega)) hlocI (by
      intro j hj hwj
      rcases F.pair hj hi with h | h
      · exact hneed j h
      · exact absurd hwj (h.dom n hn))
    exact ⟨by rw [h1, h3], by rw [h2]; exact h4⟩
  rcases tr.run with ⟨hw0, hv, hs, hlg⟩ | ⟨hw1, H, s1, hop, hlg, hnx, hH, hS1, hS2⟩
  · -- not wanted
    rw [hw0] at hw
    have hnoW : ∀ n, ¬ W (R i) n := by
      rintro n (h | h)
      · rw [hlg] at h; cases h
      · rw [tr.lo, tr.hi, hs] at h; omega
    have hcur := fun n => cur_add_other (S := S) (R := R) (x := x) (hnoW n) ops.size
    have hstep := stepR_op_skip (P := P) (b := b) (a := a) (k := k) (cs := cs) (w := w) (ops := ops) (i := i) (rest := rest) (by rw [ho]; simpa using hw)
    rw [ho] at hstep
    simp only [Option.bind_some] at hstep
    refine ⟨_, w, ρ, .one hstep, put_defers _ _ _, ?_, ?_⟩
    · refine ⟨?_, ?_, hinv.ren, ?_, hinv.size, hinv.os, hinv.tape, hinv.output, ?_, ?_, ?_, ?_⟩
      · intro n e he
        rw [(hcur n).1] at he
        rw [(hcur n).2]
        exact hinv.live n e he
      · intro n n' e e' v v' he he'
        rw [(hcur n).1] at he
        rw [(hcur n').1] at he'
        exact hinv.inj n n' e e' v v' he he'
      · intro n hn hh
        exact hinv.fresh n hn fun q hq hxq => hh q hq (.inl hxq)
      · intro q hq hh
        exact hinv.same q hq fun j hj hxj => hh j hj (.inl hxj)
      · intro n' e' v' he'
        rw [(hcur n').1] at he'
        intro h1 h2
        obtain ⟨n, e, v, h3, h4, h5, h6⟩ := hinv.img n' e' v' he' h1 h2
        exact ⟨n, e, v, h3, h4, h5, h6.imp id fun ⟨j, hj, hxj, hb⟩ => ⟨j, hj, .inl hxj, hb⟩⟩
      · cases o.dst with
        | none => exact hinv.tlen
        | some d => simp only [Act.put, Array.toList_setIfInBounds, List.length_set]; exact hinv.tlen
      · intro t ht
        by_cases hd : dstOf ops i = some t
        · obtain ⟨h1, h2⟩ := curT_add (S := S) (R := R) (x := x) (T0 := T 0) (V := V) hi hd (hdl t hd)
          rw [h1, h2, hv]
          rw [dstOf_eq ho] at hd
          rw [hd]
          refine ⟨undef, ?_, VR.undef⟩
          show (a.tmps.setIfInBounds t undef).toList[t]? = some undef
          rw [Array.toList_setIfInBounds, List.getElem?_set_self (by rw [hinv.tlen]; exact ht)]
        · obtain ⟨h1, h2⟩ := curT_add_other (S := S) (R := R) (x := x) (T0 := T 0) (V := V) hd ops.size
          rw [h1, h2]
          obtain ⟨v', h3, h4⟩ := hinv.tm t ht
          refine ⟨v', ?_, h4⟩
          rw [dstOf_eq ho] at hd
          cases hdo : o.dst with
          | none => exact h3
          | some d =>
            simp only [Act.put, Array.toList_setIfInBounds]
            rw [List.getElem?_set_ne (fun h => hd (by rw [hdo, h]))]
            exact h3
    · refine ⟨by rw [hs]; exact Nat.le_refl _, fun n _ => by rw [hs]⟩
  · rw [hw1] at hw
    -- its own state
    have hrI : Rep G (cut ρ (S i).next) ⟨H, (S i).next, []⟩ w := by
      refine ⟨?_, ?_, ?_, ?_, Nat.le_trans hr0.within hn1⟩
      · intro n e he
        obtain ⟨h1, h2⟩ := hH n e he
        obtain ⟨h3, h4⟩ := agree n h2
        obtain ⟨v, ob, h5, h6, h7, h8⟩ := hinv.live n e (by rw [h3]; exact h1)
        exact ⟨v, ob, by rw [cut_lt (by omega)]; exact h5, h7, h8.mono (cut_mono (fun _ _ _ h => h) h4)⟩
      · intro n n' e e' v v' he he' hv hv'
        obtain ⟨h1, h2⟩ := hH n e he
        obtain ⟨h1', h2'⟩ := hH n' e' he'
        exact hinv.inj n n' e e' v v' (by rw [(agree n h2).1]; exact h1) (by rw [(agree n' h2').1]; exact h1') (cut_some hv).2 (cut_some hv').2
      · intro n hn; exact cut_ge hn
      · intro g hg
        obtain ⟨u, h1, h2⟩ := hr0.glob g hg
        have := hr0.within
        exact ⟨u, by rw [cut_lt (by omega), hinv.ren g (by omega)]; exact h1, h2⟩
    -- its operands
    have hopd : Opd E (cut ρ (S i).next) (T i) a.eval o.op.operands.toList := by
      intro y hy v hv
      unfold ev at hv
      split at hv
      · rename_i t
        cases hv
        have hmem : t ∈ tmpsOf ops.toList o := by
          unfold tmpsOf
          rw [List.mem_append]
          left
          rw [List.mem_filterMap]
          exact ⟨.tmp t, hy, rfl⟩
        simp only [Act.eval]
        rw [Array.getD_eq_getD_getElem?]
        by_cases htl : t < (T 0).length
        · obtain ⟨h2, h3⟩ := tmp_agree F ho hxi hneed hdown hmonoI hmem htl
          obtain ⟨v', h4, h5⟩ := hinv.tm t htl
          rw [h2] at h5
          have h4' : a.tmps[t]? = some v' := by simpa using h4
          rw [h4']
          exact h5.mono (cut_mono (fun _ _ _ h => h) h3)
        · have hTl := T_len (T := T) (n := ops.size) (dst := dstOf ops) (V := V) (fun j hj => F.puts hj) i (Nat.le_of_lt hi)
          have hge : (T 0).length ≤ t := Nat.not_lt.1 htl
          have h3 : (T i)[t]? = none := by rw [List.getElem?_eq_none_iff, hTl]; exact hge
          have h4 : a.tmps[t]? = none := by
            rw [Array.getElem?_eq_none_iff, ← Array.length_toList, hinv.tlen]
            exact hge
          rw [nthD_eq, h3, h4]
          exact VR.undef
      · rw [chk_eq_some] at hv
        obtain ⟨h1, h2⟩ := hv
        cases h2
        exact .of_closed h1
      · rename_i g
        rw [chk_eq_some] at hv
        obtain ⟨h1, h2⟩ := hv
        cases h2
        have h1 : g < E.ng := Nat.le_of_ble_eq_true h1
        obtain ⟨u, h3, h4, h5⟩ := hrI.glob g (by omega)
        have := VR.ptr (b := g) (off := 0) h3
        rw [h4, h5] at this
        exact this
      · cases hv
        exact .func .nil .nil
    obtain ⟨v', w', ρi, l, hsteps, hvr, hri, hei⟩ := op1_sound (b := b) (rest := rest) (k := k) (cs := cs) hE hrec hrI ho hw hopd hop
    have hl : l = (R i).log := by
      have := hei.log
      rw [List.append_nil] at this
      rw [← this, hlg]
    subst hl
    have hnext : (S i).next ≤ (S (i + 1)).next := by rw [← hnx]; exact hei.next
    have hhi := F.hi hi
    have hlo := F.lo hi
    have hlocI' : Loc S R i := by
      refine ⟨hnext, fun n hn => ?_⟩
      rcases hS2 with hS2 | ⟨hS2, hS3⟩
      · exact hS2 n hn
      · rw [hS2 n, ← hS3 n]
        refine hei.heap n (fun h => hn (.inl h)) ?_
        rcases Nat.lt_or_ge n (S i).next with h1 | h1
        · exact .inl h1
        · right
          show s1.next ≤ n
          rcases Nat.lt_or_ge n s1.next with h2 | h2
          · exact absurd (.inr ⟨by rw [hlo]; exact h1, by rw [hhi, ← hnx]; exact h2⟩) hn
          · exact h2
    -- the names that it makes are free
    have hfree : ∀ n, (S i).next ≤ n → n < (S (i + 1)).next → ρ n = none := by
      intro n h1 h2
      refine hinv.fresh n (by omega) fun q hq hxq hh => ?_
      rw [F.lo hq, F.hi hq] at hh
      rcases Nat.lt_or_ge q i with h3 | h3
      · have := next_mono hloc (show q + 1 ≤ i from h3) him; omega
      · have hne : q ≠ i := fun h => hxi (h ▸ hxq)
        have := next_mono hloc (show i + 1 ≤ q by omega) (by have := hxm q hxq; omega)
        omega
    -- the new renaming
    let ρ' : Ren := fun n => if (S i).next ≤ n ∧ n < (S (i + 1)).next then ρi n else ρ n
    have hρold : ∀ n, ¬ ((S i).next ≤ n ∧ n < (S (i + 1)).next) → ρ' n = ρ n := fun n hn => if_neg hn
    have hρnew : ∀ n, (S i).next ≤ n ∧ n < (S (i + 1)).next → ρ' n = ρi n := fun n hn => if_pos hn
    have hρsub : Sub ρ ρ' := by
      intro n v hn
      rw [hρold]
      · exact hn
      · rintro ⟨h1, h2⟩; rw [hfree n h1 h2] at hn; cases hn
    have hρi : ∀ n, n < (S (i + 1)).next → ρ' n = ρi n := by
      intro n hn
      rcases Nat.lt_or_ge n (S i).next with h1 | h1
      · rw [hρold n (by omega), hei.ren n h1, cut_lt h1]
      · exact hρnew n ⟨h1, hn⟩
    have hρisub : Sub ρi (cut ρ' (R i).hi) := by
      intro n v hn
      have hlt : n < (S (i + 1)).next := by
        rcases Nat.lt_or_ge n (S (i + 1)).next with h1 | h1
        · exact h1
        · rw [hri.fresh n (by rw [hnx]; exact h1)] at hn; cases hn
      rw [cut_lt (by rw [hhi]; exact hlt), hρi n hlt]
      exact hn
    have hcutsub : ∀ q, Sub (cut ρ q) (cut ρ' q) := fun q => cut_mono (fun n v _ h => hρsub n v h) (Nat.le_refl _)
    -- entries
    have curW : ∀ n, W (R i) n → cur S R (fun k => x k ∨ k = i) ops.size n = s1.h.get n ∧ lev S R (fun k => x k ∨ k = i) ops.size n = (R i).hi := fun n hn => by
      obtain ⟨h1, h2⟩ := cur_add (S := S) (R := R) (x := x) hi hn (hlate n hn)
      exact ⟨by rw [h1, hS1 n hn], h2⟩
    have curN : ∀ n, ¬ W (R i) n → cur S R (fun k => x k ∨ k = i) ops.size n = cur S R x ops.size n ∧ lev S R (fun k => x k ∨ k = i) ops.size n = lev S R x ops.size n := fun n hn => cur_add_other hn ops.size
    -- an old name that it wrote, in its own state
    have ownlog : ∀ n e v, H.get n = some e → cut ρ (S i).next n = some v → cur S R x ops.size n = some e ∧ ρ n = some v := by
      intro n e v he hv
      obtain ⟨h1, h2⟩ := hH n e he
      exact ⟨by rw [(agree n h2).1]; exact h1, (cut_some hv).2⟩
    have hliveW : ∀ n e, s1.h.get n = some e → n < (S (i + 1)).next := fun n e he => by rw [← hnx]; exact hri.lt he
    -- what it has not written lies as it was
    have keep : ∀ n e v o', ¬ W (R i) n → cur S R x ops.size n = some e → ρ n = some v → w.heap[v.blk]? = some o' → w'.heap[v.blk]? = some o' := by
      intro n e v o' hn he hv hob
      rw [hei.same v.blk (Rep.blk_lt hob) ?_]
      · exact hob
      · intro n0 hn0 e0 v0 he0 hv0 heq
        obtain ⟨h1, h2⟩ := ownlog n0 e0 v0 he0 hv0
        have := hinv.inj n0 n e0 e v0 v h1 he h2 hv heq
        subst this
        exact hn (.inl hn0)
    refine ⟨_, w', ρ', hsteps, put_defers _ _ _, ?_, hlocI'⟩
    refine ⟨?_, ?_, ?_, ?_, Nat.le_trans hinv.size hei.size, hei.os.trans hinv.os, hei.tape.trans hinv.tape, hei.output.trans hinv.output, ?_, ?_, ?_, ?_⟩
    · -- live
      intro n e he
      by_cases hn : W (R i) n
      · obtain ⟨h1, h2⟩ := curW n hn
        rw [h1] at he
        rw [h2]
        obtain ⟨v, o', h3, h4, h5⟩ := hri.live n e he
        have hlt := hliveW n e he
        exact ⟨v, o', by rw [hρi n hlt]; exact h3, by rw [hhi]; exact hlt, h4, h5.mono hρisub⟩
      · obtain ⟨h1, h2⟩ := curN n hn
        rw [h1] at he
        rw [h2]
        obtain ⟨v, o', h3, h4, h5, h6⟩ := hinv.live n e he
        exact ⟨v, o', hρsub n v h3, h4, keep n e v o' hn he h3 h5, h6.mono (hcutsub _)⟩
    · -- inj
      -- one written, one not
      have mixed : ∀ n n' e e' v v', W (R i) n → ¬ W (R i) n' → s1.h.get n = some e → cur S R x ops.size n' = some e' → ρ' n = some v → ρ n' = some v' → v.blk = v'.blk → n = n' := by
        intro n n' e e' v v' hn hn' he he' hv hv' heq
        obtain ⟨u, o', h3, _, h5, _⟩ := hinv.live n' e' he'
        rw [h3] at hv'; cases hv'
        rw [hρi n (hliveW n e he)] at hv
        obtain ⟨n0, e0, v0, h6, h7, h8, h9⟩ := hei.img n e v he hv (by rw [heq]; exact Rep.blk_lt h5)
        obtain ⟨h10, h11⟩ := ownlog n0 e0 v0 h6 h7
        have := hinv.inj n0 n' e0 e' v0 _ h10 he' h11 h3 (h8.trans heq)
        subst this
        rcases h9 with h9 | h9
        · exact h9
        · exact absurd (.inl h9) hn'
      intro n n' e e' v v' he he' hv hv' heq
      by_cases hn : W (R i) n
      · rw [(curW n hn).1] at he
        by_cases hn' : W (R i) n'
        · rw [(curW n' hn').1] at he'
          rw [hρi n (hliveW n e he)] at hv
          rw [hρi n' (hliveW n' e' he')] at hv'
          exact hri.inj n n' e e' v v' he he' hv hv' heq
        · rw [(curN n' hn').1] at he'
          obtain ⟨u, o', h3, _⟩ := hinv.live n' e' he'
          have h4 := hρsub n' u h3
          rw [h4] at hv'; cases hv'
          exact mixed n n' e e' v _ hn hn' he he' hv h3 heq
      · rw [(curN n hn).1] at he
        obtain ⟨u, o', h3, _⟩ := hinv.live n e he
        have h4 := hρsub n u h3
        rw [h4] at hv; cases hv
        by_cases hn' : W (R i) n'
        · rw [(curW n' hn').1] at he'
          exact (mixed n' n e' e v' _ hn' hn he' he hv' h3 heq.symm).symm
        · rw [(curN n' hn').1] at he'
          obtain ⟨u', o'', h5, _⟩ := hinv.live n' e' he'
          have h6 := hρsub n' u' h5
          rw [h6] at hv'; cases hv'
          exact hinv.inj n n' e e' _ _ he he' h3 h5 heq
    · -- ren
      intro n hn
      rw [hρold n (by omega), hinv.ren n hn]
    · -- fresh
      intro n hn hh
      rw [hρold n]
      · exact hinv.fresh n hn fun q hq hxq => hh q hq (.inl hxq)
      · have := hh i hi (.inr rfl)
        rw [hlo, hhi] at this
        exact this
    · -- same
      intro q hq hh
      have h1 := hinv.same q hq fun j hj hxj => hh j hj (.inl hxj)
      rw [hei.same q (Nat.lt_of_lt_of_le hq hinv.size) ?_]
      · exact h1
      · intro n hn e v he hv heq
        obtain ⟨h2, h3⟩ := ownlog n e v he hv
        obtain ⟨n0, e0, v0, h4, h5, h6, h7⟩ := hinv.img n e v h2 h3 (by omega)
        rcases h7 with h7 | ⟨j, hj, hxj, hb⟩
        · subst h7
          exact hh i hi (.inr rfl) n hn e0 v0 h4 h5 (h6.trans heq)
        · exact hh j hj (.inl hxj) n0 hb e0 v0 h4 h5 (h6.trans heq)
    · -- img
      intro n' e' v' he' hv' hlt
      by_cases hn : W (R i) n'
      · rw [(curW n' hn).1] at he'
        rw [hρi n' (hliveW n' e' he')] at hv'
        obtain ⟨n, e, v, h1, h2, h3, h4⟩ := hei.img n' e' v' he' hv' (Nat.lt_of_lt_of_le hlt hinv.size)
        obtain ⟨h5, h6⟩ := ownlog n e v h1 h2
        obtain ⟨n0, e0, v0, h7, h8, h9, h10⟩ := hinv.img n e v h5 h6 (by omega)
        refine ⟨n0, e0, v0, h7, h8, h9.trans h3, ?_⟩
        rcases h10 with h10 | ⟨j, hj, hxj, hb⟩
        · subst h10
          rcases h4 with h4 | h4
          · exact .inl h4
          · exact .inr ⟨i, hi, .inr rfl, h4⟩
        · exact .inr ⟨j, hj, .inl hxj, hb⟩
      · rw [(curN n' hn).1] at he'
        obtain ⟨u, o', h3, _⟩ := hinv.live n' e' he'
        have h4 := hρsub n' u h3
        rw [h4] at hv'; cases hv'
        obtain ⟨n0, e0, v0, h7, h8, h9, h10⟩ := hinv.img n' e' _ he' h3 hlt
        exact ⟨n0, e0, v0, h7, h8, h9, h10.imp id fun ⟨j, hj, hxj, hb⟩ => ⟨j, hj, .inl hxj, hb⟩⟩
    · cases o.dst with
      | none => exact hinv.tlen
      | some d => simp only [Act.put, Array.toList_setIfInBounds, List.length_set]; exact hinv.tlen
    · intro t ht
      by_cases hd : dstOf ops i = some t
      · obtain ⟨h1, h2⟩ := curT_add (S := S) (R := R) (x := x) (T0 := T 0) (V := V) hi hd (hdl t hd)
        rw [h1, h2]
        rw [dstOf_eq ho] at hd
        rw [hd]
        refine ⟨v', ?_, hvr.mono hρisub⟩
        show (a.tmps.setIfInBounds t v').toList[t]? = some v'
        rw [Array.toList_setIfInBounds, List.getElem?_set_self (by rw [hinv.tlen]; exact ht)]
      · obtain ⟨h1, h2⟩ := curT_add_other (S := S) (R := R) (x := x) (T0 := T 0) (V := V) hd ops.size
        rw [h1, h2]
        obtain ⟨v'', h3, h4⟩ := hinv.tm t ht
        refine ⟨v'', ?_, h4.mono (hcutsub _)⟩
        rw [dstOf_eq ho] at hd
        cases hdo : o.dst with
        | none => exact h3
        | some d =>
          simp only [Act.put, Array.toList_setIfInBounds]
          rw [List.getElem?_set_ne (fun h => hd (by rw [hdo, h]))]
          exact h3

theorem need_lt (F : Found P E rec ops S T V R) : ∀ i j, i < ops.size → Need ops.toList i j → j < i := by
  intro i
  induction i using Nat.strongRecOn with
  | _ i ih =>
    intro j hi h
    obtain ⟨e, he, hb, hor⟩ := need_of (F.at' hi) (fun e he hb => by have := edgesOk_at ops.toList 0 F.edge i _ (F.at' hi) e he hb; omega) h
    have hlt := edgesOk_at ops.toList 0 F.edge i _ (F.at' hi) e he hb
    rcases hor with hor | hor
    · omega
    · have := ih e.on (by omega) j (by omega) hor
      omega
theorem need_trans (F : Found P E rec ops S T V R) : ∀ i j, i < ops.size → Need ops.toList i j → j < ops.size := fun i j hi h => Nat.lt_trans (need_lt F i j hi h) hi

/-- The operations write nothing but what they say: run in the order of the text. -/
theorem all_loc (F : Found P E rec ops S T V R) (hE : E.Ok P) (hng : E.ng ≤ G) (hrec : RecOk P G rec) (hr0 : Rep G ρ0 (S 0) w0) {tmps : Array Value} (hv : VL ρ0 (T 0) tmps.toList) :
    ∀ i, i ≤ ops.size → (∀ j, j < i → Loc S R j) ∧ ∃ ρ w a, Inv ops.size S R (T 0) V (dstOf ops) ρ0 w0 (fun k => k < i) ρ w (Act.tmps a).toList := by
  intro i
  induction i with
  | zero =>
    intro _
    refine ⟨fun j hj => absurd hj (Nat.not_lt_zero j), ρ0, _, ⟨tmps, []⟩, Inv.start (fun k hk => absurd hk (Nat.not_lt_zero k)) hr0 hv w0.drawn⟩
  | succ i ih =>
    intro hi
    obtain ⟨h1, ρ, w, a, h2⟩ := ih (by omega)
    have ho : ops[i]? = some ops[i] := by simp [show i < ops.size by omega]
    obtain ⟨a', w', ρ', _, _, h3, h4⟩ := more (x := fun k => k < i) F hE hng hrec hr0 ho (Nat.le_refl i) (fun h => absurd h (Nat.lt_irrefl i)) (fun j hj => need_lt F i j (by omega) hj)
      (fun k hk j hj => Nat.lt_trans (need_lt F k j (by omega) hj) hk) h1 (fun j hj => hj) h2 default [] [] []
    refine ⟨fun j hj => ?_, ρ', w', a', ?_⟩
    · by_cases he : j = i
      · subst he; exact h4
      · exact h1 j (by omega)
    · have : (fun k => k < i ∨ k = i) = (fun k => k < i + 1) := by funext k; apply propext; omega
      rw [← this]
      exact h3

/-- Any order. -/
theorem any_order (F : Found P E rec ops S T V R) (hE : E.Ok P) (hng : E.ng ≤ G) (hrec : RecOk P G rec) (hr0 : Rep G ρ0 (S 0) w0) (hloc : ∀ j, j < ops.size → Loc S R j) (b : Frame) (k : List Item) (cs : List Frame) :
    ∀ {x : Nat → Prop} {l : List Nat}, Sched ops.size (Need ops.toList) x l → (∀ k, x k → ∀ j, Need ops.toList k j → x j) → (∀ j, x j → j < ops.size) → ∀ {ρ : Ren} {w : World} {a : Act},
    Inv ops.size S R (T 0) V (dstOf ops) ρ0 w0 x ρ w a.tmps.toList →
    ∃ a' w' ρ' y, Steps P (lone (b.atR a (.inRegion ops l :: k)) cs w) (lone (b.atR a' (.inRegion ops [] :: k)) cs w') ∧ a'.defers = a.defers ∧ (∀ k, k < ops.size → y k) ∧
      Inv ops.size S R (T 0) V (dstOf ops) ρ0 w0 y ρ' w' a'.tmps.toList := by
  intro x l hs
  induction hs with
  | nil h =>
    intro _ _ ρ w a hinv
    exact ⟨a, w, ρ, _, .refl _ _, rfl, h, hinv⟩
  | cons hi hx hn _ ih =>
    rename_i x i l _
    intro hdown hxm ρ w a hinv
    have ho : ops[i]? = some ops[i] := by simp [hi]
    obtain ⟨a1, w1, ρ1, h1, h2, h3, _⟩ := more F hE hng hrec hr0 ho (Nat.le_of_lt hi) hx hn hdown hloc hxm hinv b l k cs
    obtain ⟨a', w', ρ', y, h4, h5, h6, h7⟩ := ih (fun q hq j hj => by
      rcases hq with hq | hq
      · exact .inl (hdown q hq j hj)
      · subst hq; exact .inl (hn j hj)) (fun j hj => by
      rcases hj with hj | hj
      · exact hxm j hj
      · subst hj; exact hi) h3
    exact ⟨a', w', ρ', y, h1.trans h4, by rw [h5, h2], h6, h7⟩

/-- A region of open order. -/
theorem draw_sound (hE : E.Ok P) (hng : E.ng ≤ G) (hrec : RecOk P G rec) {ρ : Ren} {s s' : St} {w : World} {tm tm' : List Value} (hr : Rep G ρ s w) (htmps : tmpsOk ops.toList = true)
    (h : drawOps P E rec ops.toList (masks [] ops.toList) ops.toList [] tm s = some (tm', s')) (t : Nat) {a : Act} (hv : VL ρ tm a.tmps.toList) (d : Nat) (b : Frame) (k : List Item) (cs : List Frame) :
    ∃ a' w' ρ' l, Steps P (lone (b.atR a (.inRegion ops (Region.schedule true ops t) :: k)) cs { w with drawn := d }) (lone (b.atR a' (.inRegion ops [] :: k)) cs w') ∧ a'.defers = a.defers ∧ VL ρ' tm' a'.tmps.toList ∧
      Rep G ρ' s' w' ∧ Ext ρ s w ρ' s' w' l := by
  obtain ⟨S, T, V, R, h1, h2, h3, h4, h5⟩ := drawOps_trace _ _ _ _ _ _ h
  subst h1; subst h2; subst h3; subst h4
  simp only [tmpsOk, Bool.and_eq_true] at htmps
  have F : Found P E rec ops S T V R := ⟨h5, htmps.1, htmps.2⟩
  obtain ⟨hloc, _⟩ := all_loc F hE hng hrec hr hv ops.size (Nat.le_refl _)
  obtain ⟨a', w', ρ', y, g1, g2, g3, g4⟩ := any_order F hE hng hrec hr hloc b k cs (sched_of htmps.1 t) (fun k hk => absurd hk id) (fun j hj => absurd hj id) (a := a) (Inv.start (fun k hk => hk) hr hv d)
  obtain ⟨l, g5, g6, g7⟩ := g4.finish (T := T) g3 hr (fun j hj => F.hi hj) (fun j hj => F.lo hj) hloc (fun j hj => F.puts hj) (fun j hj => F.log hj)
  rw [Array.length_toList]
  exact ⟨a', w', ρ', l, g1, g2, g5, g6, g7⟩
end
end Go.Rx
