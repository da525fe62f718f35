/- Plain: what is put is got: the table's codes begin none of one another; an escape's numbers are read as they were. -/
import Derived.Test.YtdhehfgmhkgbpaaDoorHPrint
namespace Go.Proofs.YtdhehfgmhkgbpaaDoorH
open Go.RowKit Go.Proofs.YtdhehfgmhkgbpaaDoorW.PrintWords

theorem sameL_iff (a b : List UInt8) : sameL a b = true ↔ a <+: b ∨ b <+: a := by
  unfold sameL
  rw [beq_iff_eq]
  rcases Nat.le_total a.length b.length with h | h
  · rw [Nat.min_eq_left h, List.take_of_length_le (Nat.le_refl _), ← List.prefix_iff_eq_take]
    refine ⟨Or.inl, fun z => z.elim id fun k => ?_⟩
    rw [k.eq_of_length_le h]
    exact List.prefix_refl _
  · rw [Nat.min_eq_right h, List.take_of_length_le (l := b) (Nat.le_refl _), eq_comm, ← List.prefix_iff_eq_take]
    refine ⟨Or.inr, fun z => z.elim (fun k => ?_) id⟩
    rw [k.eq_of_length_le h]
    exact List.prefix_refl _
theorem sameL_comm (a b : List UInt8) : sameL a b = sameL b a := by
  rw [Bool.eq_iff_iff, sameL_iff, sameL_iff]
  exact Or.comm
/-- What is the same as something that begins with c, is the same as c. -/
theorem sameL_of_prefix {c s d : List UInt8} (h : c <+: s) (hs : sameL s d = true) : sameL c d = true := by
  rw [sameL_iff] at hs ⊢
  rcases hs with hs | hs
  · exact .inl (h.trans hs)
  · exact List.prefix_or_prefix_of_prefix h hs

theorem tab_apart : ∀ first : Bool, (tabG first).Pairwise (fun x y => sameL x.1.2.2 y.1.2.2 = false) := by decide +kernel
def codeB (first : Bool) (x : GItem) : Bool :=
  !sameL x.1.2.2 escL && (first || !sameL x.1.2.2 [49, 48]) && x.1.2.2.all (fun c => c == 48 || c == 49) && (x.1.2.2.take 9).any (· == 49)
theorem tab_codes : ∀ first : Bool, (tabG first).all (codeB first) = true := by decide +kernel

theorem getT_of (first : Bool) (x : GItem) (hx : x ∈ tabG first) (s : List UInt8) (c : UInt8) (r : List UInt8) (hs : s = x.1.2.2 ++ c :: r) :
    getT s first = (x.1.1, if c == 49 then -x.1.2.1 else x.1.2.1, false, (x.1.2.2.length : Int) + 1, 0) := by
  have hp : x.1.2.2 <+: s := ⟨c :: r, hs.symm⟩
  obtain ⟨us, vs, hab⟩ := List.append_of_mem hx
  have hfind : (tabG first).find? (hitB s) = some x := by
    have hap := tab_apart first
    rw [hab] at hap ⊢
    rw [List.find?_append, List.find?_eq_none.2, Option.none_or]
    · have : hitB s x = true := by
        unfold hitB
        rw [Bool.and_eq_true, sameL_iff, decide_eq_true_eq]
        exact ⟨.inr hp, by rw [hs]; simp⟩
      simp [this]
    · intro y hy hh
      unfold hitB at hh
      rw [Bool.and_eq_true] at hh
      have h1 := sameL_of_prefix hp hh.1
      have h2 := (List.pairwise_append.1 hap).2.2 y hy x (List.mem_cons_self ..)
      rw [sameL_comm, h1] at h2
      cases h2
  unfold getT
  rw [hfind]
  simp only
  have hg : s.getD x.1.2.2.length 0 = c := by
    rw [hs, List.getD_eq_getElem?_getD, List.getElem?_append_right (Nat.le_refl _), Nat.sub_self]
    rfl
  rw [hg]
theorem getS_code (first : Bool) (x : GItem) (hx : x ∈ tabG first) (s : List UInt8) (c : UInt8) (r : List UInt8) (hs : s = x.1.2.2 ++ c :: r) :
    getS s first = (x.1.1, if c == 49 then -x.1.2.1 else x.1.2.1, false, (x.1.2.2.length : Int) + 1, 0) := by
  have hp : x.1.2.2 <+: s := ⟨c :: r, hs.symm⟩
  have hc := List.all_eq_true.1 (tab_codes first) x hx
  simp only [codeB, Bool.and_eq_true, Bool.not_eq_true', Bool.or_eq_true] at hc
  obtain ⟨⟨⟨h1, h2⟩, _⟩, _⟩ := hc
  unfold getS
  rw [if_neg, if_neg]
  · exact getT_of first x hx s c r hs
  · intro h
    rw [Bool.and_eq_true] at h
    have hf : first = false := by simpa using h.1
    have hp2 : sameL s [49, 48] = true := by
      rw [sameL_iff]
      exact .inr (by simpa [Lib.hasPrefix] using h.2)
    have := sameL_of_prefix hp hp2
    rcases h2 with h2 | h2
    · rw [hf] at h2; cases h2
    · rw [this] at h2; cases h2
  · intro h
    rw [sameL_of_prefix hp h] at h1
    cases h1

theorem numL_binD (n k : Nat) (h : n < 2 ^ k) : numL (binD n k) = n := by
  induction k generalizing n with
  | zero => simp [numL, binD]; omega
  | succ k ih =>
    rw [binD, numL_snoc, ih (n / 2) (by rw [Nat.pow_succ] at h; omega)]
    have : n % 2 = 0 ∨ n % 2 = 1 := by omega
    rcases this with h | h <;> rw [h] <;> simp <;> omega
theorem binD_bin (n k : Nat) : Bin (binD n k) := by
  induction k generalizing n with
  | zero => intro c hc; simp [binD] at hc
  | succ k ih =>
    intro c hc
    rw [binD, List.mem_append] at hc
    rcases hc with hc | hc
    · exact ih _ c hc
    · rw [List.mem_singleton] at hc
      have : n % 2 = 0 ∨ n % 2 = 1 := by omega
      rcases this with h | h <;> rw [h] at hc <;> subst hc <;> simp
/-- A pair that may be. -/
def Pr (run level : Int) : Prop := 0 ≤ run ∧ run ≤ 63 ∧ -127 ≤ level ∧ level ≤ 127 ∧ level ≠ 0
theorem Pr.ok {run level : Int} (h : Pr run level) : pairL run level = true := by
  obtain ⟨h1, h2, h3, h4, h5⟩ := h
  simp [pairL, h1, h2, h3, h4, h5]
def escT (run level : Int) : List UInt8 := escS ++ binD run.toNat 6 ++ binD (level % 256).toNat 8
theorem escT_length (run level : Int) : (escT run level).length = 20 := by simp [escT, escS, binD_length]
theorem escapeL_of {run level : Int} (h : Pr run level) : escapeL run level = (escT run level, 0) := by simp [escapeL, h.ok, escT]
theorem getS_esc (first : Bool) {run level : Int} (h : Pr run level) : getS (escT run level) first = (run, level, false, 20, 0) := by
  obtain ⟨h1, h2, h3, h4, h5⟩ := h
  have e12 : (escT run level).drop 12 = binD (level % 256).toNat 8 := by
    unfold escT
    rw [List.drop_append_of_le_length (by simp [escS, binD_length]), List.drop_of_length_le (by simp [escS, binD_length]), List.nil_append]
  have e6 : ((escT run level).drop 6).take 6 = binD run.toNat 6 := by
    unfold escT
    rw [List.append_assoc, List.drop_append_of_le_length (by simp [escS]), List.drop_of_length_le (by simp [escS]), List.nil_append, List.take_append_of_le_length (by simp [binD_length]), List.take_of_length_le (by simp [binD_length])]
  unfold getS
  rw [if_pos (by rw [sameL_iff]; exact .inr ⟨binD run.toNat 6 ++ binD (level % 256).toNat 8, by simp [escT, escS, escL]⟩), if_neg (by rw [escT_length]; omega), e12, e6, numL_binD _ _ (by omega), numL_binD _ _ (by omega)]
  have hi : i8 (level % 256).toNat = level := by unfold i8; split <;> omega
  rw [hi, if_neg (by omega)]
  have : ((run.toNat : Nat) : Int) = run := by omega
  rw [this]

/-- What coeff.Put tells. -/
def putT (run level : Int) (first : Bool) : List UInt8 := if shortL run level first = [] then escT run level else shortL run level first ++ [if level < 0 then 49 else 48]
theorem wrap_neg {level : Int} (h : -127 ≤ level ∧ level ≤ 127) : wrap64 (-level) = -level := by unfold wrap64; omega
/-- A pair's code stands in the table. -/
theorem short_item (first : Bool) {run level : Int} (h : Pr run level) (hs : shortL run level first ≠ []) :
    ∃ x ∈ tabG first, shortL run level first = x.1.2.2 ∧ x.1.1 = run ∧ (if level < 0 then -x.1.2.1 else x.1.2.1) = level := by
  obtain ⟨h1, h2, h3, h4, h5⟩ := h
  unfold shortL at hs ⊢
  cases hf : (tabG first).find? (hitP run level) with
  | none => rw [hf] at hs; exact absurd rfl hs
  | some x =>
    refine ⟨x, List.mem_of_find?_eq_some hf, rfl, ?_⟩
    have hh := List.find?_some hf
    have hg := x.2
    simp only [goodB, Bool.and_eq_true, decide_eq_true_eq] at hg
    simp only [hitP, Bool.and_eq_true, Bool.or_eq_true, beq_iff_eq, wrap_neg ⟨h3, h4⟩] at hh
    refine ⟨hh.1, ?_⟩
    split <;> rcases hh.2 with hh | hh <;> omega
theorem item_len (x : GItem) : 1 ≤ x.1.2.2.length ∧ x.1.2.2.length ≤ 13 := by
  have hg := x.2
  simp only [goodB, Bool.and_eq_true, decide_eq_true_eq] at hg
  omega
theorem putT_length (first : Bool) {run level : Int} (h : Pr run level) : 2 ≤ (putT run level first).length ∧ (putT run level first).length ≤ 20 := by
  unfold putT
  split
  · rw [escT_length]; omega
  · rename_i hs
    obtain ⟨x, _, e, _⟩ := short_item first h hs
    have := item_len x
    rw [e]; simp; omega
/-- What is put is got, whatever stands behind. -/
theorem getS_put (first : Bool) {run level : Int} (h : Pr run level) (r : List UInt8) : getS ((putT run level first ++ r).take 20) first = (run, level, false, ((putT run level first).length : Int), 0) := by
  unfold putT
  split
  · rw [List.take_append_of_le_length (by rw [escT_length]; omega), List.take_of_length_le (by rw [escT_length]; omega), escT_length]
    exact getS_esc first h
  · rename_i hs
    obtain ⟨x, hx, e, e1, e2⟩ := short_item first h hs
    have hl := item_len x
    rw [e]
    rw [getS_code first x hx _ (if level < 0 then 49 else 48) (r.take (19 - x.1.2.2.length)) (by
      rw [List.take_append, List.take_of_length_le (by simp; omega)]
      simp)]
    rw [e1]
    have : (if ((if level < 0 then 49 else 48 : UInt8) == 49) = true then -x.1.2.1 else x.1.2.1) = level := by
      rw [← e2]
      by_cases hn : level < 0
      · rw [e2]; simp only [hn, if_true] at e2 ⊢; simpa using e2
      · rw [e2]; simp only [hn, if_false] at e2 ⊢; simpa using e2
    rw [this]
    simp
/-- A code's signs. -/
theorem putT_bin (first : Bool) {run level : Int} (h : Pr run level) : Bin (putT run level first) ∧ ((putT run level first).take 9).any (· == 49) = true := by
  unfold putT
  split
  · refine ⟨?_, by simp [escT, escS]⟩
    intro c hc
    simp only [escT, List.mem_append] at hc
    rcases hc with (hc | hc) | hc
    · simp [escS] at hc; omega
    · exact binD_bin _ _ c hc
    · exact binD_bin _ _ c hc
  · rename_i hs
    obtain ⟨x, hx, e, _⟩ := short_item first h hs
    have hc := List.all_eq_true.1 (tab_codes first) x hx
    simp only [codeB, Bool.and_eq_true] at hc
    obtain ⟨⟨_, hb⟩, h9⟩ := hc
    rw [e]
    refine ⟨?_, ?_⟩
    · intro c hc
      rw [List.mem_append] at hc
      rcases hc with hc | hc
      · have := List.all_eq_true.1 hb c hc
        simpa using this
      · rw [List.mem_singleton] at hc
        rw [hc]
        split <;> simp
    · rw [List.take_append, List.any_append, h9, Bool.true_or]
theorem escT_bin (run level : Int) : Bin (escT run level) ∧ ((escT run level).take 9).any (· == 49) = true := by
  refine ⟨?_, by simp [escT, escS]⟩
  intro c hc
  simp only [escT, List.mem_append] at hc
  rcases hc with (hc | hc) | hc
  · simp [escS] at hc; omega
  · exact binD_bin _ _ c hc
  · exact binD_bin _ _ c hc
end Go.Proofs.YtdhehfgmhkgbpaaDoorH
