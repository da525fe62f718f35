/- Plain: the document's codes are the program's. -/
import Derived.Test.YtdhehfgmhkgbpaaDoorQApart2
import Derived.Test.YtdhehfgmhkgbpaaDoorPCx7
namespace Go.Proofs.YtdhehfgmhkgbpaaDoorH
open Go.RowKit Go.Proofs.YtdhehfgmhkgbpaaDoorW.PrintWords Go.Proofs.YtdhehfgmhkgbpaaDoorW.PrintLast Go.Proofs.YtdhehfgmhkgbpaaDoorW.PrintMore Go.Proofs.YtdhehfgmhkgbpaaDoor.PC

def prG (x : GItem) : S26 := ⟨x.1.1, x.1.2.1⟩
def cdG (x : GItem) : ByteArray := tx x.1.2.2
def codedL : List S26 × List ByteArray := ((tabG false).map prG, (tabG false).map cdG)
set_option maxRecDepth 100000 in
theorem coded_f : praxinoscoperef08_Coded.f 3000 = some codedL := by kernel_rfl
theorem tab_heads : ∀ first : Bool, (tabG first).head? = some (gitem first 0 0) := by decide +kernel
theorem tab_tails : (tabG true).tail = (tabG false).tail := by decide +kernel
theorem tab_no11 : (tabG false).tail.all (fun x => x.1.2.2 != [49, 49] && x.1.2.2 != []) = true := by decide +kernel
theorem tab_len : (tabG false).length < 100 := by decide +kernel

theorem code_l0_f (T : List GItem) (run level : Int) (hT : T.length < 1000) : ∀ (d n k : Nat), T.length = n + d → d < k →
    praxinoscoperef08_code.l0 k (T.map prG) (T.map cdG) (n : Int) run level = some (match (T.drop n).find? (hitP run level) with | some x => cdG x | none => ⟨#[]⟩) := by
  intro d
  induction d with
  | zero =>
    intro n k hn hk
    obtain ⟨k, rfl⟩ : ∃ m, k = m + 1 := ⟨k - 1, by omega⟩
    simp only [praxinoscoperef08_code.l0, List.length_map]
    rw [if_neg (by omega), List.drop_of_length_le (by omega)]
    rfl
  | succ d ih =>
    intro n k hn hk
    obtain ⟨k, rfl⟩ : ∃ m, k = m + 1 := ⟨k - 1, by omega⟩
    have hlt : n < T.length := by omega
    have hw : wrap64 ((n : Int) + 1) = ((n + 1 : Nat) : Int) := by unfold wrap64; omega
    have hp : rd_T26 (T.map prG) (n : Int) = prG T[n] := by
      unfold rd_T26
      rw [Int.toNat_natCast, List.getD_eq_getElem?_getD, List.getElem?_map, List.getElem?_eq_getElem hlt]; rfl
    have hc : rdOf ByteArray.empty (T.map cdG) (n : Int) = cdG T[n] := by
      unfold rdOf
      rw [Int.toNat_natCast, List.getD_eq_getElem?_getD, List.getElem?_map, List.getElem?_eq_getElem hlt]; rfl
    have hd : T.drop n = T[n] :: T.drop (n + 1) := List.drop_eq_getElem_cons hlt
    have hnext := ih (n + 1) k (by omega) (by omega)
    rw [hd, List.find?_cons]
    simp only [praxinoscoperef08_code.l0, List.length_map]
    rw [if_pos (by omega), if_pos (by omega), hp, hc, hw]
    generalize T[n] = x at *
    have hh : hitP run level x = (x.1.1 == run && (x.1.2.1 == level || x.1.2.1 == wrap64 (-level))) := rfl
    show (if x.1.1 = run then (if x.1.2.1 = level then _ else if x.1.2.1 = wrap64 (-level) then _ else _) else _) = _
    by_cases h1 : x.1.1 = run
    · rw [if_pos h1]
      by_cases h2 : x.1.2.1 = level
      · rw [if_pos h2, if_pos (by omega)]
        have : hitP run level x = true := by rw [hh]; simp [h1, h2]
        rw [this]
      · rw [if_neg h2]
        by_cases h3 : x.1.2.1 = wrap64 (-level)
        · rw [if_pos h3, if_pos (by omega)]
          have : hitP run level x = true := by rw [hh]; simp [h1, h3]
          rw [this]
        · rw [if_neg h3, hnext]
          have : hitP run level x = false := by rw [hh]; simp [h2, h3]
          rw [this]
    · rw [if_neg h1, hnext]
      have : hitP run level x = false := by rw [hh]; simp [h1]
      rw [this]
theorem ref_code_f (run level : Int) : praxinoscoperef08_code.f 3000 run level = some (tx (shortL run level false)) := by
  unfold praxinoscoperef08_code.f
  rw [coded_f, Option.bind_some]
  have h := code_l0_f (tabG false) run level (by have := tab_len; omega) (tabG false).length 0 3000 (by omega) (by have := tab_len; omega)
  have h' : praxinoscoperef08_code.l0 3000 codedL.1 codedL.2 0 run level = _ := h
  rw [h', List.drop_zero]
  unfold shortL
  cases (tabG false).find? (hitP run level) <;> rfl
/-- At first the least code is 1. -/
theorem short_true (run level : Int) : shortL run level true = if shortL run level false = [49, 49] then [49] else shortL run level false := by
  have ht : tabG true = gitem true 0 0 :: (tabG false).tail := by
    have h := tab_heads true
    rw [← tab_tails]
    cases hq : tabG true with
    | nil => rw [hq] at h; cases h
    | cons a l => rw [hq] at h; rw [← Option.some.inj h]; rfl
  have hf : tabG false = gitem false 0 0 :: (tabG false).tail := by
    have h := tab_heads false
    cases hq : tabG false with
    | nil => rw [hq] at h; cases h
    | cons a l => rw [hq] at h; rw [← Option.some.inj h]; rfl
  have hno := tab_no11
  have e1 : (gitem true 0 0).1 = (0, 1, [49]) := by decide +kernel
  have e2 : (gitem false 0 0).1 = (0, 1, [49, 49]) := by decide +kernel
  unfold shortL
  rw [ht, hf]
  generalize (tabG false).tail = R at hno
  rw [List.tail_cons, List.find?_cons, List.find?_cons]
  have hh : hitP run level (gitem true 0 0) = hitP run level (gitem false 0 0) := by unfold hitP; rw [e1, e2]
  rw [hh]
  cases hitP run level (gitem false 0 0) with
  | true => simp only [e1, e2]; rfl
  | false =>
    simp only
    cases hq : R.find? (hitP run level) with
    | none => rfl
    | some x =>
      have := List.all_eq_true.1 hno x (List.mem_of_find?_eq_some hq)
      simp only [Bool.and_eq_true, bne_iff_ne] at this
      simp only
      rw [if_neg this.1]
theorem ref_pair_f (run level : Int) : praxinoscoperef08_Pair.f run level = some (pairL run level) := by
  unfold praxinoscoperef08_Pair.f pairL
  by_cases h1 : run ≥ 0 <;> by_cases h2 : run ≤ 63 <;> by_cases h3 : level ≥ -127 <;> by_cases h4 : level ≤ 127 <;> by_cases h5 : level = 0 <;> simp [h1, h2, h3, h4, h5]
theorem bits_l0_f (many : Nat) (hm : many ≤ 20) : ∀ (d i n k : Nat) (acc : List UInt8), many = i + d → d < k → n < 1000000 → acc.length + d ≤ 20 → praxinoscoperef08_bits.l0 k (n : Int) (many : Int) (tx acc) (i : Int) = some (tx (binD n d ++ acc)) := by
  intro d
  induction d with
  | zero =>
    intro i n k acc hi hk hn ha
    obtain ⟨k, rfl⟩ : ∃ m, k = m + 1 := ⟨k - 1, by omega⟩
    simp only [praxinoscoperef08_bits.l0]
    rw [if_neg (by omega)]
    rfl
  | succ d ih =>
    intro i n k acc hi hk hn ha
    obtain ⟨k, rfl⟩ : ∃ m, k = m + 1 := ⟨k - 1, by omega⟩
    have e1 : (wrap64 (48 + Int.tmod (n : Int) 2)) % 256 = ((48 + n % 2 : Nat) : Int) := by
      rw [Int.tmod_eq_emod_of_nonneg (by omega)]; unfold wrap64; omega
    have e2 : wrap64 (Int.tdiv (n : Int) 2) = ((n / 2 : Nat) : Int) := by
      rw [Int.tdiv_eq_ediv_of_nonneg (by omega)]; unfold wrap64; omega
    have e3 : wrap64 ((i : Int) + 1) = ((i + 1 : Nat) : Int) := by unfold wrap64; omega
    have e4 : strOfNums [((48 + n % 2 : Nat) : Int)] ++ tx acc = tx (UInt8.ofNat (48 + n % 2) :: acc) := by
      have : strOfNums [((48 + n % 2 : Nat) : Int)] = tx [UInt8.ofNat (48 + n % 2)] := by
        unfold strOfNums tx
        rw [List.map_cons, Int.toNat_natCast, List.map_nil]
      rw [this, tx_append]; rfl
    have e5 : (strOfNums [((48 + n % 2 : Nat) : Int)]).size + (tx acc).size ≤ 9223372036854775807 := by rw [strOfNums_size, tx_size]; simp only [List.length_cons, List.length_nil]; omega
    simp only [praxinoscoperef08_bits.l0]
    rw [if_pos (by omega), e1, Option.bind_some, if_pos e5, e2, e3, e4, ih (i + 1) (n / 2) k _ (by omega) (by omega) (by omega) (by rw [List.length_cons]; omega), binD]
    simp
theorem bits_n (n many : Nat) (hm : many ≤ 20) (hn : n < 1000000) : praxinoscoperef08_bits.f 3000 (n : Int) (many : Int) = some (tx (binD n many)) := by
  have := bits_l0_f many hm many 0 n 3000 [] (by omega) (by omega) hn (by simpa using hm)
  rw [List.append_nil] at this
  exact this
theorem ref_escape_f (run level : Int) : praxinoscoperef08_Escape.f 3000 run level = some (tx (escapeL run level).1, (escapeL run level).2) := by
  unfold praxinoscoperef08_Escape.f escapeL
  rw [ref_pair_f, Option.bind_some]
  cases hp : pairL run level with
  | false => rfl
  | true =>
    simp only [pairL, Bool.and_eq_true, decide_eq_true_eq] at hp
    obtain ⟨⟨⟨⟨h1, h2⟩, h3⟩, h4⟩, h5⟩ := hp
    have e1 := bits_n run.toNat 6 (by omega) (by omega)
    have e2 := bits_n (level % 256).toNat 8 (by omega) (by omega)
    have e3 : Int.tmod (wrap64 (level + 256)) 256 = (((level % 256).toNat : Nat) : Int) := by
      rw [show wrap64 (level + 256) = level + 256 by unfold wrap64; omega, Int.tmod_eq_emod_of_nonneg (by omega)]; omega
    have e4 : ((run.toNat : Nat) : Int) = run := by omega
    rw [e4] at e1
    have e1' : praxinoscoperef08_bits.f 3000 run 6 = some (tx (binD run.toNat 6)) := e1
    have e2' : praxinoscoperef08_bits.f 3000 (((level % 256).toNat : Nat) : Int) 8 = some (tx (binD (level % 256).toNat 8)) := e2
    have e5 : (⟨#[48, 48, 48, 48, 48, 49]⟩ : ByteArray) = tx escS := rfl
    rw [if_pos rfl, e1', Option.bind_some, if_pos (by rw [tx_size, binD_length]; omega), e3, e2', Option.bind_some, e5, tx_append, if_pos (by rw [tx_size, tx_size]; simp [binD_length, escS]), tx_append]
    rfl
theorem ref_put_f (run level : Int) (first : Bool) : praxinoscoperef08_Put.f 3000 run level first = coeff_Put.f run level first := by
  have hpe : coeff_pair.f run level = praxinoscoperef08_Pair.f run level := rfl
  have hee : coeff_Escape.f run level = some (tx (escapeL run level).1, (escapeL run level).2) := rfl
  have hse : coeff_short.f run level first = some (tx (shortL run level first)) := rfl
  unfold praxinoscoperef08_Put.f coeff_Put.f
  rw [hpe, ref_pair_f, Option.bind_some, Option.bind_some, hee, hse, ref_code_f, ref_escape_f, Option.bind_some, Option.bind_some, Option.bind_some, tx_toList, tx_toList]
  cases pairL run level with
  | false => rfl
  | true =>
    rw [if_pos rfl, if_pos rfl]
    have hlen : ∀ f, (shortL run level f).length ≤ 13 := fun f => by
      unfold shortL
      split
      · rename_i x _; exact (item_len x).2
      · simp
    have hl1 := hlen false
    by_cases hs : shortL run level false = []
    · have ht : shortL run level first = [] := by
        cases first
        · exact hs
        · rw [short_true, hs]; rfl
      rw [if_pos hs, if_pos ht]
    · have ht : shortL run level first ≠ [] := by
        cases first
        · exact hs
        · rw [short_true]; split
          · simp
          · exact hs
      rw [if_neg hs, if_neg ht]
      have hfin : ∀ (b : Bool) (c : List UInt8), (b = true → c = [49]) → (b = false → c = shortL run level false) → praxinoscoperef08_Put.j0 3000 (tx (shortL run level false)) b run level =
          (if level < 0 then (if (tx c).size + 1 ≤ 9223372036854775807 then some (tx c ++ (⟨#[49]⟩ : ByteArray), (0 : Int)) else none) else (if (tx c).size + 1 ≤ 9223372036854775807 then some (tx c ++ (⟨#[48]⟩ : ByteArray), (0 : Int)) else none)) := by
        intro b c h1 h2
        show praxinoscoperef08_Put.j0 (2999 + 1) _ _ _ _ = _
        simp only [praxinoscoperef08_Put.j0]
        cases b
        · rw [h2 rfl, if_neg (by decide)]
        · rw [h1 rfl, if_pos rfl]
          have : (tx [49]).size + 1 ≤ 9223372036854775807 := by rw [tx_size]; simp
          by_cases hn : level < 0
          · rw [if_pos hn, if_pos hn, if_pos this, if_pos (by decide)]; rfl
          · rw [if_neg hn, if_neg hn, if_pos this, if_pos (by decide)]; rfl
      cases first
      · rw [if_neg (by decide)]
        exact hfin false _ (fun h => by cases h) (fun _ => rfl)
      · rw [if_pos rfl, short_true]
        refine hfin _ _ (fun h => ?_) (fun h => ?_)
        · rw [if_pos (by simpa using h)]
        · rw [if_neg (by simpa using h)]
theorem ref_short_f (run level : Int) : praxinoscoperef08_Short.f 3000 run level = coeff_Short.f run level := by
  unfold praxinoscoperef08_Short.f coeff_Short.f
  rw [ref_code_f]
  rfl
theorem puts_pure (run level : Int) : praxinoscopelaw08_CoeffPuts.f 3000 run level = some true := by
  have hee : coeff_Escape.f run level = some (tx (escapeL run level).1, (escapeL run level).2) := rfl
  have hse : ∀ first, ∃ s e, coeff_Put.f run level first = some (s, e) := fun first => by
    unfold coeff_Put.f
    have hpe : coeff_pair.f run level = praxinoscoperef08_Pair.f run level := rfl
    have hs : coeff_short.f run level first = some (tx (shortL run level first)) := rfl
    rw [hpe, ref_pair_f, hee, hs, Option.bind_some, Option.bind_some, Option.bind_some]
    cases pairL run level with
    | false => exact ⟨_, _, rfl⟩
    | true =>
      rw [if_pos rfl]
      have hl : (tx (shortL run level first)).size + 1 ≤ 9223372036854775807 := by
        rw [tx_size]; unfold shortL
        split
        · rename_i x _; have := (item_len x).2; omega
        · simp
      rw [if_pos hl, if_pos hl]
      split
      · exact ⟨_, _, rfl⟩
      · split <;> exact ⟨_, _, rfl⟩
  obtain ⟨s1, e1, h1⟩ := hse true
  obtain ⟨s2, e2, h2⟩ := hse false
  have hsh : ∃ b, coeff_Short.f run level = some b := ⟨_, rfl⟩
  obtain ⟨b, hb⟩ := hsh
  unfold praxinoscopelaw08_CoeffPuts.f
  rw [ref_put_f, ref_put_f, h1, h2, ref_escape_f, hee, ref_short_f, hb, awake_f]
  have hend : coeff_End.f = some ⟨#[49, 48]⟩ := rfl
  have hend2 : (⟨#[49, 48]⟩ : ByteArray).toList = [49, 48] := tx_toList [49, 48]
  simp [hend, hend2]

theorem puts_law (run level : Int) (w : World) (hL : Laid w) (_h1 : (Lit.int .i64 run).wf = true) (_h2 : (Lit.int .i64 level).wf = true) :
    Calls Tryd.prog 6 #[.agg #[.int .i64 run, .int .i64 level]] w fun e w' => e = .returned (.bool true) ∧ Below w.heap.size w w' :=
  praxinoscopelaw08_CoeffPuts.calls 3000 run level true w hL (puts_pure run level)
end Go.Proofs.YtdhehfgmhkgbpaaDoorH
