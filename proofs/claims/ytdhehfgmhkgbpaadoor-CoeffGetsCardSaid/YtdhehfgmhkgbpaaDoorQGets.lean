/- Plain: the document's Get tells what coeff.Get tells. -/
import Derived.Test.YtdhehfgmhkgbpaaDoorHRef8
import Derived.Test.YtdhehfgmhkgbpaaDoorQRead
import Derived.Test.YtdhehfgmhkgbpaaDoorQCode
import Derived.Test.YtdhehfgmhkgbpaaDoorPCx4
namespace Go.Proofs.YtdhehfgmhkgbpaaDoorH
open Go.RowKit Go.Proofs.YtdhehfgmhkgbpaaDoorW.PrintWords Go.Proofs.YtdhehfgmhkgbpaaDoorW.PrintLast Go.Proofs.YtdhehfgmhkgbpaaDoorW.PrintMore Go.Proofs.YtdhehfgmhkgbpaaDoor.PC

theorem seenL_take (l : List Int) (p n m : Nat) (h : m ≤ n) : (seenL l p n).take m = seenL l p m := by
  induction n with
  | zero => obtain rfl : m = 0 := by omega
            rfl
  | succ n ih =>
    by_cases e : m = n + 1
    · subst e; rw [List.take_of_length_le (by rw [seenL_length]; omega)]
    · rw [show seenL l p (n + 1) = seenL l p n ++ [UInt8.ofNat (48 + bitI l (p + n))] from rfl, List.take_append_of_le_length (by rw [seenL_length]; omega)]
      exact ih (by omega)
theorem seenL_drop (l : List Int) (p m : Nat) : ∀ n, (seenL l p (m + n)).drop m = seenL l (p + m) n
  | 0 => by rw [List.drop_of_length_le (by rw [seenL_length]; omega)]; rfl
  | n + 1 => by
    rw [show seenL l p (m + (n + 1)) = seenL l p (m + n) ++ [UInt8.ofNat (48 + bitI l (p + (m + n)))] from rfl, List.drop_append_of_le_length (by rw [seenL_length]; omega), seenL_drop l p m n, ← Nat.add_assoc]
    rfl
theorem sign_nat (b : Nat) (h : b < 2) : (UInt8.ofNat (48 + b)).toNat - 48 = b := by
  have : b = 0 ∨ b = 1 := by omega
  rcases this with rfl | rfl <;> rfl
theorem numL_seen (l : List Int) (p n : Nat) : numL (seenL l p n) = bitsN l p n := by
  induction n with
  | zero => rfl
  | succ n ih => simp only [seenL, numL_snoc, ih, bitsN]; rw [sign_nat _ (bitI_lt _ _)]
theorem bitsN_add (l : List Int) (p m n : Nat) : bitsN l p (m + n) = 2 ^ n * bitsN l p m + bitsN l (p + m) n := by
  induction n with
  | zero => simp [bitsN]
  | succ n ih =>
    rw [← Nat.add_assoc]
    simp only [bitsN, ih, Nat.pow_succ, Nat.add_assoc, Nat.mul_add]
    rw [← Nat.mul_assoc, Nat.mul_comm 2 (2 ^ n)]
theorem seenL_getD (l : List Int) (p n m : Nat) (h : m < n) : (seenL l p n).getD m 0 = UInt8.ofNat (48 + bitI l (p + m)) := by
  have e : (seenL l p n).take (m + 1) = seenL l p m ++ [UInt8.ofNat (48 + bitI l (p + m))] := seenL_take l p n (m + 1) h
  have h1 : (seenL l p n)[m]? = ((seenL l p n).take (m + 1))[m]? := by rw [List.getElem?_take_of_lt (Nat.lt_succ_self m)]
  rw [List.getD_eq_getElem?_getD, h1, e, List.getElem?_append_right (by rw [seenL_length]; exact Nat.le_refl _), seenL_length, Nat.sub_self]
  rfl
theorem begB_iff (s c : List UInt8) : begB s c = true ↔ c <+: s := by
  unfold begB
  rw [Bool.and_eq_true, decide_eq_true_eq, beq_iff_eq]
  constructor
  · rintro ⟨_, h⟩; rw [← h]; exact List.take_prefix _ _
  · intro h; exact ⟨h.length_le, (List.prefix_iff_eq_take.1 h).symm⟩
theorem begB_take (s c : List UInt8) (h : c.length < 20) : begB (s.take 20) c = begB s c := by
  rw [Bool.eq_iff_iff, begB_iff, begB_iff]
  constructor
  · exact fun z => z.trans (List.take_prefix _ _)
  · intro z
    rw [List.prefix_iff_eq_take] at z ⊢
    rw [List.take_take, Nat.min_eq_left (by omega)]
    exact z
theorem begB_taken (s c : List UInt8) (h : c.length < 20) : begB c (s.take 20) = begB c s := by
  by_cases hs : s.length ≤ 20
  · rw [List.take_of_length_le hs]
  · have h1 : (s.take 20).length = 20 := by rw [List.length_take]; omega
    unfold begB
    rw [h1, decide_eq_false (by omega), decide_eq_false (by omega)]
    rfl
theorem treeS_take (T : List (List UInt8 × Int)) (hT : ∀ x ∈ T, x.1.length < 20) (s : List UInt8) : treeS T (s.take 20) = treeS T s := by
  have h1 : ∀ T : List (List UInt8 × Int), (∀ x ∈ T, x.1.length < 20) → T.find? (fun x => begB (s.take 20) x.1) = T.find? (fun x => begB s x.1) := by
    intro T
    induction T with
    | nil => intro _; rfl
    | cons a T ih => intro h; rw [List.find?_cons, List.find?_cons, begB_take s a.1 (h a (by simp)), ih fun x hx => h x (by simp [hx])]
  have h2 : T.any (fun x => begB x.1 (s.take 20)) = T.any (fun x => begB x.1 s) := by
    rw [Bool.eq_iff_iff, List.any_eq_true, List.any_eq_true]
    constructor
    · rintro ⟨x, hx, h⟩; exact ⟨x, hx, by rw [← begB_taken s x.1 (hT x hx)]; exact h⟩
    · rintro ⟨x, hx, h⟩; exact ⟨x, hx, by rw [begB_taken s x.1 (hT x hx)]; exact h⟩
  unfold treeS
  rw [h1 T hT, h2]
theorem treeL_short : ∀ first : Bool, ∀ x ∈ treeL first, x.1.length < 20 := by decide +kernel
theorem treeL_one : ∀ first : Bool, ∀ x ∈ treeL first, ∀ y ∈ treeL first, x = y ∨ sameL x.1 y.1 = false := by decide +kernel
theorem treeL_esc : ∀ first : Bool, (escU, 1000) ∈ treeL first := by decide +kernel
theorem treeL_end : ([49, 48], 1001) ∈ treeL false := by decide +kernel
theorem treeL_nil : ∀ first : Bool, treeS (treeL first) [] = (0, 0, 5) := by decide +kernel
/-- Number and pair of a code of the table. -/
def ofG (x : List UInt8 × Int) (g : GItem) : Prop := g.1.2.2 = x.1 ∧ 0 ≤ x.2 ∧ x.2 < 1000 ∧ x.2 < (codedP.length : Int) ∧ (rd_T26 codedP x.2).f0 = g.1.1 ∧ (rd_T26 codedP x.2).f1 = g.1.2.1
instance (x : List UInt8 × Int) (g : GItem) : Decidable (ofG x g) := by unfold ofG; exact inferInstance
theorem treeL_parts : ∀ first : Bool, ∀ x ∈ treeL first, x = (escU, 1000) ∨ (first = false ∧ x = ([49, 48], 1001)) ∨ ∃ g ∈ tabG first, ofG x g := by decide +kernel
theorem tab_tree : ∀ first : Bool, ∀ g ∈ tabG first, ∃ x ∈ treeL first, ofG x g := by decide +kernel

theorem treeS_mem {first : Bool} {x : List UInt8 × Int} (hx : x ∈ treeL first) {s : List UInt8} (h : x.1 <+: s) : treeS (treeL first) s = (x.2, (x.1.length : Int), 0) := by
  unfold treeS
  cases hf : (treeL first).find? (fun x => begB s x.1) with
  | none =>
    have := List.find?_eq_none.1 hf x hx
    exact absurd ((begB_iff _ _).2 h) this
  | some y =>
    have h1 := List.find?_some hf
    have h2 := List.mem_of_find?_eq_some hf
    rw [begB_iff] at h1
    rcases treeL_one first x hx y h2 with e | e
    · rw [e]
    · rw [(sameL_iff _ _).2 (List.prefix_or_prefix_of_prefix h h1)] at e; cases e
theorem read_r (first : Bool) (l : List Int) (hb : ∀ x ∈ l, 0 ≤ x ∧ x ≤ 255) (hl : l.length ≤ 100000000000000) (p : Nat) (hp : p ≤ 8 * l.length) :
    praxinoscoperef08_read.f l (p : Int) first = some (treeS (treeL first) (seenL l p (min 20 (8 * l.length - p)))) := by
  unfold praxinoscoperef08_read.f treeG
  rw [if_pos ⟨hb, hl, by omega⟩, if_neg (by omega), Int.toNat_natCast, ← treeS_take _ (treeL_short first)]
  congr 2
  by_cases h : 20 ≤ min 24 (8 * l.length - p)
  · rw [seenL_take _ _ _ _ h, Nat.min_eq_left (by omega)]
  · rw [List.take_of_length_le (by rw [seenL_length]; omega), show min 24 (8 * l.length - p) = min 20 (8 * l.length - p) by omega]

theorem esc_val (k x a b : Nat) (hx : x = 256 * a + b) (hb : b < 256) (ha : a < 64) (t : Int) (ht : t = 6) :
    (if (Int.tmod (x : Int) 256) = 0 then praxinoscoperef08_Get.j0 (k + 1) t (x : Int) (Int.tmod (x : Int) 256) true else praxinoscoperef08_Get.j0 (k + 1) t (x : Int) (Int.tmod (x : Int) 256) ((Int.tmod (x : Int) 256) == 128)) =
      some (if i8 b = 0 ∨ i8 b = -128 then (0, 0, false, 0, 10) else ((a : Int), i8 b, false, 20, 0)) := by
  subst ht
  have e1 : Int.tmod (x : Int) 256 = (b : Int) := by rw [Int.tmod_eq_emod_of_nonneg (by omega)]; omega
  have e2 : wrap64 (Int.tdiv (x : Int) 256) = (a : Int) := by rw [Int.tdiv_eq_ediv_of_nonneg (by omega)]; unfold wrap64; omega
  rw [e1]
  by_cases b0 : b = 0
  · subst b0; rfl
  · rw [if_neg (by omega)]
    by_cases b1 : b = 128
    · subst b1; rfl
    · rw [show ((b : Int) == 128) = false from beq_eq_false_iff_ne.2 (by omega)]
      have e3 : i8 b = if b < 128 then (b : Int) else (b : Int) - 256 := by unfold i8; rw [Nat.mod_eq_of_lt hb]
      simp only [praxinoscoperef08_Get.j0]
      rw [if_neg (show ¬ (false = true) from Bool.false_ne_true), e2]
      by_cases b2 : b < 128
      · rw [if_pos b2] at e3
        rw [e3, if_neg (by omega), if_neg (by omega), show wrap64 (6 + 14) = 20 by unfold wrap64; omega]
      · rw [if_neg b2] at e3
        rw [e3, if_pos (by omega), if_neg (by omega), show wrap64 ((b : Int) - 256) = (b : Int) - 256 by unfold wrap64; omega, show wrap64 (6 + 14) = 20 by unfold wrap64; omega]

theorem ref_get (first : Bool) (l : List Int) (hb : ∀ x ∈ l, 0 ≤ x ∧ x ≤ 255) (hl : l.length ≤ 100000000000000) (p : Int) (hp : p ≤ 9223372036854775807) :
    praxinoscoperef08_Get.f 3000 l p first = some (getP l p first) := by
  unfold praxinoscoperef08_Get.f getP
  by_cases h0 : p < 0
  · have : praxinoscoperef08_read.f l p first = some (0, 0, 3) := by unfold praxinoscoperef08_read.f treeG; rw [if_pos ⟨hb, hl, hp⟩, if_pos h0]
    rw [this, Option.bind_some, if_pos h0, if_neg (by decide)]
  rw [if_neg h0]
  by_cases h1 : 8 * (l.length : Int) < p
  · have : praxinoscoperef08_read.f l p first = some (0, 0, 5) := by
      unfold praxinoscoperef08_read.f treeG
      rw [if_pos ⟨hb, hl, hp⟩, if_neg h0, show min 24 (8 * l.length - p.toNat) = 0 by omega]
      exact congrArg some (treeL_nil first)
    rw [this, Option.bind_some, if_pos h1, if_neg (by decide)]
  rw [if_neg h1]
  obtain ⟨q, rfl⟩ := Int.eq_ofNat_of_zero_le (show 0 ≤ p by omega)
  have hq : q ≤ 8 * l.length := by omega
  rw [Int.toNat_natCast, read_r first l hb hl q hq, Option.bind_some]
  obtain ⟨n, hn⟩ : ∃ n, min 20 (8 * l.length - q) = n := ⟨_, rfl⟩
  rw [hn]
  have hsl := seenL_length l q n
  obtain ⟨s, hs⟩ : ∃ s, seenL l q n = s := ⟨_, rfl⟩
  rw [hs] at hsl ⊢
  have W : ∀ t : Nat, t ≤ 20 → wrap64 ((q : Int) + (t : Int)) = ((q + t : Nat) : Int) := fun t ht => by unfold wrap64; omega
  unfold getS
  cases he : sameL s escL with
  | true =>
    rw [if_pos rfl]
    rw [sameL_iff] at he
    by_cases h6 : 6 ≤ s.length
    · have hpre : escU <+: s := by
        rcases he with he | he
        · have := he.eq_of_length_le (show escL.length ≤ s.length from h6)
          rw [this]; exact List.prefix_refl _
        · exact he
      rw [treeS_mem (treeL_esc first) hpre]
      dsimp only
      rw [if_pos rfl, if_neg (by decide), if_pos rfl, show ((escU.length : Nat) : Int) = ((6 : Nat) : Int) from rfl, W 6 (by omega)]
      by_cases h20 : s.length < 20
      · have hrd : praxinoscoperef01_Read.f 3000 l ((q + 6 : Nat) : Int) 14 = _ := ref_read_more l (q + 6) 14 (by omega) (by omega) hl (by omega) 3000 (by omega)
        rw [if_pos h20, hrd]
        rfl
      · have hrd : praxinoscoperef01_Read.f 3000 l ((q + 6 : Nat) : Int) 14 = _ := ref_read_f l hb (q + 6) 14 (by omega) (by omega) hl 3000 (by omega)
        rw [if_neg h20, hrd, Option.bind_some, if_pos rfl]
        have hn20 : n = 20 := by omega
        subst hn20
        have e1 : numL (s.drop 12) = bitsN l (q + 12) 8 := by rw [← hs, seenL_drop l q 12 8, numL_seen]
        have e2 : numL ((s.drop 6).take 6) = bitsN l (q + 6) 6 := by rw [← hs, seenL_drop l q 6 14, seenL_take _ _ _ _ (by omega), numL_seen]
        rw [e1, e2]
        have e3 : bitsN l (q + 6) 14 = 256 * bitsN l (q + 6) 6 + bitsN l (q + 12) 8 := bitsN_add l (q + 6) 6 8
        exact esc_val 2999 _ _ _ e3 (bitsN_lt _ _ 8) (bitsN_lt _ _ 6) _ rfl
    · have hpre : s <+: escU := by
        rcases he with he | he
        · exact he
        · have := he.length_le
          exact absurd (show 6 ≤ s.length from this) h6
      have hno : ∀ x ∈ treeL first, begB s x.1 = false := by
        intro x hx
        rw [← Bool.not_eq_true, begB_iff]
        intro z
        rcases treeL_one first x hx _ (treeL_esc first) with e | e
        · have := z.length_le
          rw [e] at this
          exact h6 this
        · rw [(sameL_iff _ _).2 (.inl (z.trans hpre))] at e; cases e
      rw [treeS_more hno, if_pos (List.any_eq_true.2 ⟨_, treeL_esc first, (begB_iff _ _).2 hpre⟩), if_pos (show s.length < 20 by omega)]
      rfl
  | false =>
    rw [if_neg Bool.false_ne_true]
    have hne : ∀ x ∈ treeL first, x = (escU, 1000) → ¬ x.1 <+: s ∧ ¬ s <+: x.1 := fun x _ e => by
      rw [e]
      refine ⟨fun z => ?_, fun z => ?_⟩
      · rw [(sameL_iff s escL).2 (.inr z)] at he; cases he
      · rw [(sameL_iff s escL).2 (.inl z)] at he; cases he
    cases hp2 : (!first && Lib.hasPrefix s [49, 48]) with
    | true =>
      rw [if_pos rfl]
      simp only [Bool.and_eq_true, Bool.not_eq_true'] at hp2
      obtain ⟨rfl, hp3⟩ := hp2
      rw [treeS_mem treeL_end (by simpa [Lib.hasPrefix] using hp3)]
      rfl
    | false =>
      rw [if_neg Bool.false_ne_true]
      have hend : first = false → ¬ ([49, 48] : List UInt8) <+: s := fun hf z => by
        rw [hf] at hp2
        have : Lib.hasPrefix s [49, 48] = true := by simpa [Lib.hasPrefix] using z
        rw [this] at hp2; cases hp2
      unfold getT
      cases hf : (tabG first).find? (hitB s) with
      | some g =>
        have h1 := List.find?_some hf
        have h2 := List.mem_of_find?_eq_some hf
        unfold hitB at h1
        rw [Bool.and_eq_true, decide_eq_true_eq, sameL_iff] at h1
        obtain ⟨h1, h3⟩ := h1
        have hpre : g.1.2.2 <+: s := by
          rcases h1 with h1 | h1
          · have := h1.length_le; omega
          · exact h1
        obtain ⟨x, hx, c1, c2, c3, c4, c5, c6⟩ := tab_tree first g h2
        have hg := good_of g
        rw [treeS_mem hx (by rw [← c1]; exact hpre)]
        dsimp only
        rw [← c1]
        obtain ⟨m, hm⟩ : ∃ m, g.1.2.2.length = m := ⟨_, rfl⟩
        rw [hm] at h3 hg ⊢
        have hrd := ref_read_f l hb (q + m) 1 (by omega) (by omega) hl 3000 (by omega)
        rw [if_pos rfl, if_neg (by omega), if_neg (by omega), W m (by omega), show (1 : Int) = ((1 : Nat) : Int) from rfl, hrd, Option.bind_some, if_pos rfl, coded_b, Option.bind_some, if_pos c2, if_pos c4, c5, c6]
        have hgd : s.getD m 0 = UInt8.ofNat (48 + bitI l (q + m)) := by rw [← hs]; exact seenL_getD l q n m (by omega)
        have hb1 : bitsN l (q + m) 1 = bitI l (q + m) := by simp [bitsN]
        dsimp only
        rw [hgd, hb1, show wrap64 ((m : Int) + ((1 : Nat) : Int)) = (m : Int) + 1 by unfold wrap64; omega, show wrap64 (-g.1.2.1) = -g.1.2.1 by unfold wrap64; omega]
        have hb2 := bitI_lt l (q + m)
        have hb3 : bitI l (q + m) = 0 ∨ bitI l (q + m) = 1 := by omega
        rcases hb3 with e | e <;> rw [e] <;> rfl
      | none =>
        have hnh : ∀ g ∈ tabG first, ¬ (sameL s g.1.2.2 = true ∧ g.1.2.2.length < s.length) := fun g hg => by
          have := List.find?_eq_none.1 hf g hg
          unfold hitB at this
          rw [Bool.and_eq_true, decide_eq_true_eq] at this
          exact this
        by_cases hex : ∃ x ∈ treeL first, x.1 <+: s
        · obtain ⟨x, hx, hpre⟩ := hex
          rcases treeL_parts first x hx with e | ⟨e1, e2⟩ | ⟨g, hg, c1, c2, c3, c4, c5, c6⟩
          · exact absurd hpre (hne x hx e).1
          · rw [e2] at hpre; exact absurd hpre (hend e1)
          · have hsame : sameL s g.1.2.2 = true := (sameL_iff _ _).2 (.inr (by rw [c1]; exact hpre))
            have h3 : ¬ g.1.2.2.length < s.length := fun z => hnh g hg ⟨hsame, z⟩
            have h4 := hpre.length_le
            rw [← c1] at h4
            have hgd := good_of g
            have hany : (tabG first).any (nearB s) = true := List.any_eq_true.2 ⟨g, hg, by unfold nearB; rw [hsame, decide_eq_true (by omega)]; rfl⟩
            rw [treeS_mem hx hpre]
            dsimp only
            rw [← c1]
            obtain ⟨m, hm⟩ : ∃ m, g.1.2.2.length = m := ⟨_, rfl⟩
            rw [hm] at h3 h4 hgd ⊢
            rw [if_pos rfl, if_neg (by omega), if_neg (by omega), W m (by omega), show (1 : Int) = ((1 : Nat) : Int) from rfl, ref_read_more l (q + m) 1 (by omega) (by omega) hl (by omega) 3000 (by omega), Option.bind_some, hany, Bool.or_true, if_pos rfl]
            rfl
        · have hno : ∀ x ∈ treeL first, begB s x.1 = false := fun x hx => by
            rw [← Bool.not_eq_true, begB_iff]
            exact fun z => hex ⟨x, hx, z⟩
          have hany : (treeL first).any (fun x => begB x.1 s) = ((!first && sameL s [49, 48]) || (tabG first).any (nearB s)) := by
            rw [Bool.eq_iff_iff, List.any_eq_true, Bool.or_eq_true, Bool.and_eq_true, List.any_eq_true, Bool.not_eq_true', sameL_iff]
            constructor
            · rintro ⟨x, hx, z⟩
              rw [begB_iff] at z
              rcases treeL_parts first x hx with e | ⟨e1, e2⟩ | ⟨g, hg, c1, _⟩
              · exact absurd z (hne x hx e).2
              · rw [e2] at z; exact .inl ⟨e1, .inl z⟩
              · refine .inr ⟨g, hg, ?_⟩
                unfold nearB
                rw [Bool.and_eq_true, sameL_iff, decide_eq_true_eq, c1]
                exact ⟨.inl z, z.length_le⟩
            · rintro (⟨e1, z⟩ | ⟨g, hg, z⟩)
              · rcases z with z | z
                · subst e1; exact ⟨_, treeL_end, (begB_iff _ _).2 z⟩
                · exact absurd z (hend e1)
              · unfold nearB at z
                rw [Bool.and_eq_true, sameL_iff, decide_eq_true_eq] at z
                obtain ⟨x, hx, c1, _⟩ := tab_tree first g hg
                refine ⟨x, hx, (begB_iff _ _).2 ?_⟩
                rw [← c1]
                rcases z.1 with y | y
                · exact y
                · rw [y.eq_of_length_le z.2]; exact List.prefix_refl _
          rw [treeS_more hno, hany]
          cases ((!first && sameL s [49, 48]) || (tabG first).any (nearB s)) <;> rfl
end Go.Proofs.YtdhehfgmhkgbpaaDoorH
