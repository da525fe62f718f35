/- Contracts of praxinoscoperef03.Make, Tree.Get and praxinoscoperef08.read. -/
import Derived.Test.YtdhehfgmhkgbpaaDoorHPrint
import Derived.Test.YtdhehfgmhkgbpaaDoorPCx3
import Derived.Test.YtdhehfgmhkgbpaaDoorPCx2
import Derived.Test.YtdhehfgmhkgbpaaDoorWMore
import Derived.Test.YtdhehfgmhkgbpaaDoorQRead
namespace Go.Proofs.YtdhehfgmhkgbpaaDoorH
open Go.RowKit Go.Proofs.YtdhehfgmhkgbpaaDoorW.PrintWords Go.Proofs.YtdhehfgmhkgbpaaDoorW.PrintLast Go.Proofs.YtdhehfgmhkgbpaaDoorW.PrintMore Go.Proofs.YtdhehfgmhkgbpaaDoor.PC

theorem infoI : (Tryd.prog.info? 3).map (fun i => (i.zero, i.size, i.bytes)) = some (some (.int .i64 0), 1, 8) := by kernel_rfl
theorem infoS : (Tryd.prog.info? 9).map (fun i => (i.zero, i.size, i.bytes)) = some (some (.string ⟨#[]⟩), 1, 16) := by kernel_rfl
/-- A tree that was made. -/
structure IsTree (g : Nat) (codes : List ByteArray) (numbers : List Int) (W : World) : Prop where
  out : ∃ A1 c1 A2 c2, W.heap[g]? = some (.cells #[.slice A1 codes.length c1, .slice A2 numbers.length c2] 92 (0, 0)) ∧ Kd.C Kd.string W A1 codes.length codes ∧ Kd.C (Kd.int .i64) W A2 numbers.length numbers
set_option maxHeartbeats 4000000 in
set_option maxRecDepth 100000 in
theorem make_calls (A : Option Addr) (c : Nat) (codes : List ByteArray) (A' : Option Addr) (c' : Nat) (numbers : List Int) (w : World) (hC : Kd.C Kd.string w A codes.length codes) (hN : Kd.C (Kd.int .i64) w A' numbers.length numbers)
    (h1 : numbers.length = codes.length) (h2 : 0 < codes.length) (h3 : codes.length ≤ 300) (hcode : ∀ i, i < codes.length → praxinoscoperef03_code.f 1000 (codes.getD i ByteArray.empty) = some true)
    (hap : ∀ i k, i < codes.length → k < codes.length → i ≠ k → praxinoscoperef03_begins.f (codes.getD i ByteArray.empty) (codes.getD k ByteArray.empty) = some false) :
    Calls Tryd.prog 53 #[.slice A codes.length c, .slice A' numbers.length c'] w fun e W => ∃ g, e = .returned (.tuple #[.pointer (some ⟨g, 0, none⟩), .int .i64 0]) ∧ IsTree g codes numbers W ∧ Below w.heap.size w W := by
  obtain ⟨ad, rfl, _⟩ := Kd.at_string hC 0 (by omega) (by omega)
  have HC := Lib.hid hC
  have HN := Lib.hid hN
  have HK := Lib.hid hcode
  have HA := Lib.hid hap
  have H1 := Lib.hid h1
  clear hC hN hcode hap h1
  have t1 : ((codes.length : Int) == 0) = false := by rw [beq_eq_false_iff_ne]; omega
  have t2 : (300 < (codes.length : Int)) = False := by simp; omega
  have t3 : (codes.length : Int) ≤ 300 := by omega
  rw [H1.out]
  go_enter Tryd.func53, Tryd.ntmps53
  go_wp2
  go_loopw [6] (fun s6 wr => ∃ i : Nat, i ≤ codes.length ∧ s6 = .int .i64 i ∧ Below w.heap.size w wr) (fun s6 _ => codes.length - (intOf s6).toNat)
  case atStart => exact ⟨0, by omega, rfl, Below.refl _ _⟩
  case round =>
    obtain ⟨i, hi, rfl, hB⟩ := hrel
    by_cases hlt : i < codes.length
    · have hcell : wr.cell? (ad.add i) = some (.string (codes.getD i ByteArray.empty)) := by
        obtain ⟨ad', e, h⟩ := Kd.at_string (Kd.C_below HC.out hB) (i : Int) (by omega) (by omega)
        rw [Option.some.inj e]
        unfold rdOf at h
        rw [Int.toNat_natCast] at h
        exact h
      have hk := HK.out i hlt
      generalize codes.getD i ByteArray.empty = s at hcell hk
      go_wp2_with (go_at_call 65; refine (praxinoscoperef03_code.calls 1000 s true _ hk).mono ?_; rintro e w1 ⟨rfl, hd⟩)
      have hB1 := hB.trans (hd.below.mono hB.size)
      clear hd
      go_roundw
      case rel => exact ⟨i + 1, by omega, by go_num, hB1⟩
      case measure => simp [intOf]; omega
    · go_wp2
      clear hi hlt
      obtain ⟨wa, rfl⟩ : ∃ wa : World, wa = wr := ⟨_, rfl⟩
      go_loopw [7, 8] (fun s7 _ wr => ∃ j : Nat, j ≤ codes.length ∧ s7 = .int .i64 j ∧ Below w.heap.size w wr) (fun s7 _ _ => codes.length - (intOf s7).toNat)
      case atStart => exact ⟨0, by omega, rfl, hB⟩
      case round =>
        obtain ⟨j, hj, rfl, hB2⟩ := hrel
        by_cases hlt : j < codes.length
        · go_wp2
          obtain ⟨wo, rfl⟩ : ∃ wo : World, wo = wr := ⟨_, rfl⟩
          go_loopw [8] (fun s8 wr => ∃ k : Nat, k ≤ codes.length ∧ s8 = .int .i64 k ∧ Below w.heap.size w wr) (fun s8 _ => codes.length - (intOf s8).toNat)
          case atStart => exact ⟨0, by omega, rfl, hB2⟩
          case round =>
            obtain ⟨k, hk, rfl, hB3⟩ := hrel
            by_cases hlk : k < codes.length
            · have hcell : ∀ i, i < codes.length → wr.cell? (ad.add i) = some (.string (codes.getD i ByteArray.empty)) := fun i hi => by
                obtain ⟨ad', e, h⟩ := Kd.at_string (Kd.C_below HC.out hB3) (i : Int) (by omega) (by omega)
                rw [Option.some.inj e]
                unfold rdOf at h
                rw [Int.toNat_natCast] at h
                exact h
              have kj := hcell j hlt
              have kk := hcell k hlk
              clear hcell
              by_cases hjk : j = k
              · subst hjk
                go_wp2
                go_quiet (fail)
                go_wp2
                go_roundw
                case rel => exact ⟨j + 1, by omega, by go_num, pw_below_drewN hB3 _⟩
                case measure => simp [intOf]; omega
              · have e1 : (j != k) = true := by simp [hjk]
                have e2 : (j == k) = false := by simp [hjk]
                have e3 : ((j : Int) != (k : Int)) = true := by rw [bne_iff_ne]; omega
                have e4 : ((j : Int) == (k : Int)) = false := by rw [beq_eq_false_iff_ne]; omega
                have hb := HA.out j k hlt hlk hjk
                generalize codes.getD j ByteArray.empty = s at kj hb
                generalize codes.getD k ByteArray.empty = t at kk hb
                clear hjk
                go_wp2
                go_quiet ((go_at_call 66; exact Calls.quiet_of ((praxinoscoperef03_begins.calls s t false _ hb).mono fun _ _ ⟨he, hd⟩ => ⟨he, hd.out⟩)))
                go_wp2
                go_roundw
                case rel => exact ⟨k + 1, by omega, by go_num, pw_below_drewN hB3 _⟩
                case measure => simp [intOf]; omega
            · go_wp2
              go_roundw
              case rel => exact ⟨j + 1, by omega, by go_num, hB3⟩
              case measure => simp [intOf]; omega
        · clear hB
          obtain ⟨wb, rfl⟩ : ∃ wb : World, wb = wr := ⟨_, rfl⟩
          go_wp2_with (first
            | ((with_reducible refine gate_dst (N := 62) rfl ?_); refine Kd.R_lit Kd.string (w0 := wb) wb.heap.size 9 ?hg (N := 62) ?hd (xs := ([] : List ByteArray)) (inner := []) (ok := fun _ => True) (okp := fun _ => True) ?hr ?hp (fun _ hk => hk) trivial (Below.refl _ _) (Nat.le_refl _) (by simp) ?_; (case hd => rfl); (case hg => rfl); (case hr => first | (go_simp; done) | (go_simp; rfl)); (case hp => exact (Reps.none _ _)); intro v1 w1 ho1 hb1 _ _)
            | ((with_reducible refine gate_builtin (b := .append) (xs := #[.tmp 62, .tmp 63]) rfl ?_); at_builtin; refine Kd.R_append_rows Kd.string (w0 := wb) wb.heap.size rfl (.tmp 62) (.tmp 63) 59 9 (.string ⟨#[]⟩) 16 rfl Tryd.underlying59 infoS rfl (by decide) (by omega) v1 [] codes _ _ _ (fun _ => True) (fun _ => False) rfl rfl ?aO ?aR (fun _ _ h => h) (fun _ h => h.elim) ?aF ?aB ?aS ?aL ?_; (case aR => exact Kd.C_below HC.out (hB2.trans (hb1.mono hB2.size))); (case aB => exact hb1); (case aF => exact (fun _ _ => trivial)); (case aO => exact ho1); (case aS => exact hb1.size); (case aL => simp only [List.length_nil]; omega); intro v2 w2 ho2 hb2 _ _; rw [List.nil_append] at ho2; obtain ⟨A1, c1, e1, _, hC1⟩ := Kd.R_reads ho2; subst e1; clear ho1 hb1 ho2)
            | ((with_reducible refine gate_dst (N := 65) rfl ?_); refine Kd.R_lit (Kd.int .i64) (w0 := w2) w2.heap.size 3 ?hg (N := 65) ?hd (xs := ([] : List Int)) (inner := []) (ok := fun _ => True) (okp := fun _ => True) ?hr ?hp (fun _ hk => hk) trivial (Below.refl _ _) (Nat.le_refl _) (by simp) ?_; (case hd => rfl); (case hg => rfl); (case hr => first | (go_simp; done) | (go_simp; rfl)); (case hp => exact (Reps.none _ _)); intro v3 w3 ho3 hb3 _ _)
            | ((with_reducible refine gate_builtin (b := .append) (xs := #[.tmp 65, .tmp 66]) rfl ?_); at_builtin; refine Kd.R_append_rows (Kd.int .i64) (w0 := w2) w2.heap.size rfl (.tmp 65) (.tmp 66) 38 3 (.int .i64 0) 8 rfl Tryd.underlying38 infoI rfl (by decide) (by omega) v3 [] numbers _ _ _ (fun _ => True) (fun _ => False) rfl rfl ?aO ?aR (fun _ _ h => h) (fun _ h => h.elim) ?aF ?aB ?aS ?aL ?_; (case aR => have hh := Kd.C_below HN.out ((hB2.trans (hb2.mono hB2.size)).trans (hb3.mono (Nat.le_trans hB2.size hb2.size))); rw [H1.out] at hh; exact hh); (case aB => exact hb3); (case aF => exact (fun _ _ => trivial)); (case aO => exact ho3); (case aS => exact hb3.size); (case aL => simp only [List.length_nil]; omega); intro v4 w4 ho4 hb4 _ _; rw [List.nil_append] at ho4; obtain ⟨A2, c2, e2, _, hC2⟩ := Kd.R_reads ho4; subst e2; clear ho3 hb3 ho4))
          have hT : IsTree w4.heap.size codes numbers (w4.alloc (.cells #[.slice A1 codes.length c1, .slice A2 numbers.length c2] 92)) := by
            refine ⟨A1, c1, A2, c2, heap_alloc_new w4 _, Kd.C_alloc (Kd.C_below hC1 hb4) _, Kd.C_alloc hC2 _⟩
          have hBe : Below w.heap.size w (w4.alloc (.cells #[.slice A1 codes.length c1, .slice A2 numbers.length c2] 92)) :=
            ((hB2.trans (hb2.mono hB2.size)).trans (hb4.mono (Nat.le_trans hB2.size hb2.size))).alloc (Nat.le_trans (Nat.le_trans hB2.size hb2.size) hb4.size) _
          go_ret2
          exact ⟨w4.heap.size, rfl, hT, hBe⟩

abbrev txb (l : List UInt8) : ByteArray := ⟨l.toArray⟩
theorem txb_size (l : List UInt8) : (txb l).size = l.length := by simp [ByteArray.size]
theorem txb_toList (l : List UInt8) : (txb l).toList = l := by rw [ByteArray.toList_eq]
/-- Does s begin with c? -/
def begB (s c : List UInt8) : Bool := decide (c.length ≤ s.length) && s.take c.length == c
theorem begins_f (s c : List UInt8) : praxinoscoperef03_begins.f (txb s) (txb c) = some (begB s c) := by
  unfold praxinoscoperef03_begins.f begB
  simp only [txb_size, Int.toNat_natCast]
  by_cases h : c.length ≤ s.length
  · rw [if_pos (by omega), if_pos (by omega)]
    congr 1
    have : ((txb s).extract 0 c.length).toList = s.take c.length := by
      rw [ByteArray.toList_eq, Lib.extract_data]
      simp
    rw [this, txb_toList]
    simp [h]
  · rw [if_neg (by omega)]
    simp [h]
/-- Which code of a table stands there: its number, how many bits it has, or why there is none. -/
def treeS (T : List (List UInt8 × Int)) (s : List UInt8) : Int × Int × Int :=
  match T.find? (fun x => begB s x.1) with
  | some x => (x.2, (x.1.length : Int), 0)
  | none => if T.any (fun x => begB x.1 s) then (0, 0, 5) else (0, 0, 7)
def treeG (T : List (List UInt8 × Int)) (l : List Int) (at_ : Int) : Int × Int × Int :=
  if at_ < 0 then (0, 0, 3) else treeS T (seenL l at_.toNat (min 24 (8 * l.length - at_.toNat)))

theorem sign_str (b : Nat) (hb : b < 2) : strOfNums [48 + (b : Int)] = txb [UInt8.ofNat (48 + b)] := by
  have : b = 0 ∨ b = 1 := by omega
  rcases this with rfl | rfl <;> rfl
theorem txb_append (a b : List UInt8) : txb a ++ txb b = txb (a ++ b) := by
  apply ByteArray.ext
  simp
theorem find_at {α : Type} (f : α → Bool) (T : List α) (i : Nat) (hi : i < T.length) (hno : ∀ x ∈ T.take i, f x = false) (h : f T[i] = true) : T.find? f = some T[i] := by
  conv => lhs; rw [← List.take_append_drop i T]
  rw [List.find?_append, List.find?_eq_none.2 (fun x hx => by rw [hno x hx]; simp), Option.none_or, List.drop_eq_getElem_cons hi, List.find?_cons, h]
theorem take_no {α : Type} (f : α → Bool) (T : List α) (i : Nat) (hi : i < T.length) (hno : ∀ x ∈ T.take i, f x = false) (h : f T[i] = false) : ∀ x ∈ T.take (i + 1), f x = false := by
  intro x hx
  rw [List.take_succ_eq_append_getElem hi, List.mem_append] at hx
  rcases hx with hx | hx
  · exact hno x hx
  · rw [List.mem_singleton.1 hx]; exact h
theorem treeS_hit {T : List (List UInt8 × Int)} {s : List UInt8} {i : Nat} (hi : i < T.length) (hno : ∀ x ∈ T.take i, begB s x.1 = false) (h : begB s T[i].1 = true) : treeS T s = (T[i].2, (T[i].1.length : Int), 0) := by
  unfold treeS
  rw [find_at (fun x => begB s x.1) T i hi hno h]
theorem treeS_more {T : List (List UInt8 × Int)} {s : List UInt8} (hno : ∀ x ∈ T, begB s x.1 = false) : treeS T s = if T.any (fun x => begB x.1 s) then (0, 0, 5) else (0, 0, 7) := by
  unfold treeS
  rw [List.find?_eq_none.2 (fun x hx => by rw [hno x hx]; simp)]
set_option maxHeartbeats 4000000 in
set_option maxRecDepth 100000 in
theorem tree_get (g : Nat) (T : List (List UInt8 × Int)) (A : Option Addr) (c : Nat) (l : List Int) (at_ : Int) (w : World) (hT : IsTree g (T.map fun x => txb x.1) (T.map (·.2)) w) (h0 : 0 < T.length) (h300 : T.length ≤ 300) (hs : ∀ x ∈ T, x.1.length ≤ 1000)
    (hr : (Kd.int .u8).C w A l.length l) (hlc : l.length ≤ c) (hb : ∀ x ∈ l, 0 ≤ x ∧ x ≤ 255) (hl : l.length ≤ 100000000000000) (hat : at_ ≤ 9223372036854775807) :
    Calls Tryd.prog 54 #[.pointer (some ⟨g, 0, none⟩), .slice A l.length c, .int .i64 at_] w fun e W => e = .returned (.tuple #[.int .i64 (treeG T l at_).1, .int .i64 (treeG T l at_).2.1, .int .i64 (treeG T l at_).2.2]) ∧ Below w.heap.size w W := by
  unfold treeG
  by_cases hneg : at_ < 0
  · rw [if_pos hneg]
    go_enter Tryd.func54, Tryd.ntmps54
    go_wp2
    refine bodyPost_ret (v := .tuple #[.int .i64 0, .int .i64 0, .int .i64 3]) (by simp [results, Tryd.results54, go_sem]) rfl ⟨rfl, Below.refl _ _⟩
  · rw [if_neg hneg]
    obtain ⟨p, rfl⟩ := Int.eq_ofNat_of_zero_le (show 0 ≤ at_ by omega)
    rw [Int.toNat_natCast]
    obtain ⟨R, hR⟩ : ∃ R, treeS T (seenL l p (min 24 (8 * l.length - p))) = R := ⟨_, rfl⟩
    rw [hR]
    have HRR := Lib.hid hR
    clear hR
    obtain ⟨A1, c1, A2, c2, hg, hC1, hC2⟩ := hT.out
    obtain ⟨a1, rfl, _⟩ := Kd.at_string hC1 0 (by omega) (by rw [List.length_map]; omega)
    obtain ⟨a2, rfl, _⟩ := Kd.at_int hC2 0 (by omega) (by rw [List.length_map]; omega)
    rw [List.length_map, List.length_map] at hg
    have HG := Lib.hid hg
    have HC1 := Lib.hid hC1
    have HC2 := Lib.hid hC2
    have HR := Lib.hid hr
    have HB := Lib.hid hb
    have HS := Lib.hid hs
    clear hg hC1 hC2 hr hb hT hs hneg
    go_enter Tryd.func54, Tryd.ntmps54
    go_wp2
    go_loopw [9] (fun s9 wr => ∃ k : Nat, k ≤ min 24 (8 * l.length - p) ∧ s9 = .string (txb (seenL l p k)) ∧ Below w.heap.size w wr) (fun s9 _ => 24 - (match s9 with | .string b => b.size | _ => 0))
    case atStart => exact ⟨0, by omega, rfl, Below.refl _ _⟩
    case round =>
      obtain ⟨k, hk, rfl, hB⟩ := hrel
      have hsz : (txb (seenL l p k)).size = k := by rw [txb_size, seenL_length]
      have hS : txb (seenL l p k) ++ txb [UInt8.ofNat (48 + bitI l (p + k))] = txb (seenL l p (k + 1)) := by rw [txb_append]; rfl
      have HSS := Lib.hid hS
      have hbit := bitI_lt l (p + k)
      have hsg := sign_str (bitI l (p + k)) hbit
      have HSG := Lib.hid hsg
      have hcount : praxinoscoperef01_Count.f l = some (8 * (l.length : Int)) := by unfold praxinoscoperef01_Count.f; congr 1; unfold wrap64; omega
      have HCN := Lib.hid hcount
      clear hS hsg hcount
      have hss1 : (txb [UInt8.ofNat (48 + bitI l (p + k))]).size = 1 := by rw [txb_size]; rfl
      by_cases hlt : k < min 24 (8 * l.length - p)
      · have hk24 : k < 24 := by omega
        have hpk : p + k < 8 * l.length := by omega
        have HRD : Hid (praxinoscoperef01_Read.f 100 l ((p : Int) + (k : Int)) 1 = some ((bitI l (p + k) : Int), 0)) := Lib.hid (by
          rw [show (p : Int) + (k : Int) = ((p + k : Nat) : Int) by omega]
          have h := ref_read_f l HB.out (p + k) 1 (by omega) (by omega) hl 100 (by omega)
          have e : bitsN l (p + k) 1 = bitI l (p + k) := by simp [bitsN]
          rw [e] at h
          exact h)
        generalize txb [UInt8.ofNat (48 + bitI l (p + k))] = C at HSS HSG hss1
        generalize bitI l (p + k) = b at hbit HSG HRD
        generalize txb (seenL l p k) = s at hsz HSS
        go_wp2_with (first
          | (go_at_call 55; refine (praxinoscoperef01_Count.calls A c l _ _ (Kd.C_below HR.out hB) hlc HCN.out).mono ?_; rintro e w1 ⟨rfl, hd⟩; have hB1 := hB.trans (hd.below.mono hB.size); clear hd)
          | (go_at_call 34; refine (praxinoscoperef01_Read.calls 100 A c l _ 1 _ _ _ (Kd.C_below HR.out hB1) hlc HRD.out).mono ?_; rintro e w2 ⟨rfl, hd⟩; have hB2 := hB1.trans (hd.below.mono hB1.size); clear hd)
          | ((with_reducible refine gate_dst (N := 41) rfl ?_); refine Kd.R_lit (Kd.int .u8) (w0 := w2) w2.heap.size 5 ?hg (N := 41) ?hd (xs := [48 + (b : Int)]) (inner := [.int .u8 (48 + (b : Int))]) (ok := fun _ => True) (okp := fun _ => True) ?hr ?hp (fun _ hk => hk) trivial (Below.refl _ _) (Nat.le_refl _) (by simp) ?_; (case hd => rfl); (case hg => rfl); (case hr => first | (go_simp; done) | (go_simp; rfl)); (case hp => exact (Reps.one (show Kd.M (Kd.int .u8) _ _ _ (48 + (b : Int)) [.int .u8 (48 + (b : Int))] from rfl) (Reps.none _ _))); intro v3 w3 ho3 hb3 _ _; have hB3 := hB2.trans (hb3.mono hB2.size); have hcv := own_string (P := Tryd.prog) Tryd.underlying22 Tryd.underlying5 Tryd.underlying9 (Kd.own_of_R ho3); rw [HSG.out] at hcv; clear ho3 hb3))
        go_roundw
        case rel => exact ⟨k + 1, by omega, by rw [HSS.out], hB3⟩
        case measure => simp [ByteArray.size_append, hsz, hss1]; omega
      · have hke : k = min 24 (8 * l.length - p) := by omega
        have hTS : treeS T (seenL l p k) = R := by have h := HRR.out; rw [← hke] at h; exact h
        have hkl := seenL_length l p k
        have hpk : (p : Int) + (k : Int) ≤ 9223372036854775807 := by omega
        clear HSS HSG hss1 hbit hke
        generalize seenL l p k = s at hsz hkl hTS
        have HTS := Lib.hid hTS
        clear hTS
        have hcases : (p + k < 8 * l.length ∧ ¬ (k : Int) < 24) ∨ ¬ ((p : Int) + (k : Int) < 8 * (l.length : Int)) := by omega
        clear hlt hk
        rcases hcases with ⟨h1, h2⟩ | h1
        all_goals
          go_wp2_with (go_at_call 55; refine (praxinoscoperef01_Count.calls A c l _ _ (Kd.C_below HR.out hB) hlc HCN.out).mono ?_; rintro e w1 ⟨rfl, hd⟩; have hB1 := hB.trans (hd.below.mono hB.size); clear hd)
          go_wp2
          have hcells : ∀ W, Below w.heap.size w W → W.cell? ⟨g, 0, none⟩ = some (.slice (some a1) T.length c1) ∧ W.cell? ⟨g, 1, none⟩ = some (.slice (some a2) T.length c2) ∧
              ∀ i (hi : i < T.length), W.cell? (a1.add i) = some (.string (txb T[i].1)) ∧ W.cell? (a2.add i) = some (.int .i64 T[i].2) := fun W hW => by
            have hgW : W.heap[g]? = some (.cells #[.slice (some a1) T.length c1, .slice (some a2) T.length c2] 92 (0, 0)) := by
              rw [hW.block _ (Array.getElem?_eq_some_iff.1 HG.out).1]; exact HG.out
            refine ⟨by rw [Lib.cell_of_heap hgW]; rfl, by rw [Lib.cell_of_heap hgW]; rfl, fun i hi => ⟨?_, ?_⟩⟩
            · obtain ⟨ad', e, h⟩ := Kd.at_string (Kd.C_below HC1.out hW) (i : Int) (by omega) (by rw [List.length_map]; omega)
              rw [Option.some.inj e]
              unfold rdOf at h
              rw [Int.toNat_natCast, List.getD_eq_getElem?_getD, List.getElem?_map, List.getElem?_eq_getElem hi] at h
              exact h
            · obtain ⟨ad', e, h⟩ := Kd.at_int (Kd.C_below HC2.out hW) (i : Int) (by omega) (by rw [List.length_map]; omega)
              rw [Option.some.inj e]
              unfold rd at h
              rw [Int.toNat_natCast, List.getD_eq_getElem?_getD, List.getElem?_map, List.getElem?_eq_getElem hi] at h
              exact h
          have HCE := Lib.hid hcells
          clear hcells
          obtain ⟨wa, rfl⟩ : ∃ wa : World, wa = wr := ⟨_, rfl⟩
          go_loopw [12] (fun s12 wr => ∃ i : Nat, i ≤ T.length ∧ s12 = .int .i64 i ∧ Below w.heap.size w wr ∧ Hid (∀ x ∈ T.take i, begB s x.1 = false)) (fun s12 _ => T.length - (intOf s12).toNat)
          case atStart => exact ⟨0, by omega, rfl, by assumption, Lib.hid (fun x hx => by simp at hx)⟩
          case round =>
            obtain ⟨i, hi, rfl, hBi, hno⟩ := hrel
            by_cases hlt : i < T.length
            · obtain ⟨k0, k1, kc⟩ := HCE.out wr hBi
              obtain ⟨ka, kb⟩ := kc i hlt
              have hxs := HS.out T[i] (List.getElem_mem hlt)
              have hzz := txb_size T[i].1
              clear kc
              cases hbg : begB s T[i].1 with
              | true =>
                have hres : R = (T[i].2, (T[i].1.length : Int), 0) := by rw [← HTS.out]; exact treeS_hit hlt hno.out hbg
                have HRES := Lib.hid hres
                have hb := begins_f s T[i].1
                rw [hbg] at hb
                clear hbg hres
                generalize hte : T[i].1 = t at ka hxs hzz HRES hb
                generalize hve : T[i].2 = v at kb HRES
                have HTE := Lib.hid hte
                have HVE := Lib.hid hve
                clear hte hve
                go_wp2_with (go_at_call 66; refine (praxinoscoperef03_begins.calls _ _ true _ hb).mono ?_; rintro e w3 ⟨rfl, hd⟩; have hB3 := hBi.trans (hd.below.mono hBi.size); obtain ⟨k0', k1', kc'⟩ := HCE.out w3 hB3)
                obtain ⟨ka', kb'⟩ := kc' i hlt
                rw [HTE.out] at ka'
                rw [HVE.out] at kb'
                clear kc' ka kb k0 k1
                go_quiet (fail)
                go_wp2
                go_ret3
                exact ⟨by first | (rw [HRES.out]; done) | (rw [HRES.out]; rfl), pw_below_drewN hB3 _⟩
              | false =>
                have hno2 := Lib.hid (take_no (fun x => begB s x.1) T i hlt hno.out hbg)
                have hb := begins_f s T[i].1
                rw [hbg] at hb
                clear hbg
                generalize T[i].1 = t at ka hxs hzz hb
                clear kb
                go_wp2_with (go_at_call 66; refine (praxinoscoperef03_begins.calls _ _ false _ hb).mono ?_; rintro e w3 ⟨rfl, hd⟩; have hB3 := hBi.trans (hd.below.mono hBi.size))
                go_roundw
                case rel => exact ⟨i + 1, by omega, by go_num, hB3, hno2⟩
                case measure => simp [intOf]; omega
            · obtain ⟨k0, k1, _⟩ := HCE.out wr hBi
              have hall : ∀ x ∈ T, begB s x.1 = false := by
                have h := hno.out
                rw [List.take_of_length_le (by omega)] at h
                exact h
              have hres := treeS_more hall
              rw [HTS.out] at hres
              have HRES := Lib.hid hres
              clear hall hres
              go_wp2
              clear k0 k1 hno hi hlt
              obtain ⟨wq, rfl⟩ : ∃ wq : World, wq = wr := ⟨_, rfl⟩
              go_loopw [13] (fun s13 wr => ∃ i : Nat, i ≤ T.length ∧ s13 = .int .i64 i ∧ Below w.heap.size w wr ∧ Hid (∀ x ∈ T.take i, begB x.1 s = false)) (fun s13 _ => T.length - (intOf s13).toNat)
              case atStart => exact ⟨0, by omega, rfl, hBi, Lib.hid (fun x hx => by simp at hx)⟩
              case round =>
                obtain ⟨j, hj, rfl, hBj, hno⟩ := hrel
                by_cases hlt : j < T.length
                · obtain ⟨k0, k1, kc⟩ := HCE.out wr hBj
                  obtain ⟨ka, _⟩ := kc j hlt
                  have hxs := HS.out T[j] (List.getElem_mem hlt)
                  have hzz := txb_size T[j].1
                  clear kc
                  have hb := begins_f T[j].1 s
                  cases hbg : begB T[j].1 s with
                  | true =>
                    have hany : T.any (fun x => begB x.1 s) = true := List.any_eq_true.2 ⟨T[j], List.getElem_mem hlt, hbg⟩
                    have hres : R = (0, 0, 5) := by rw [HRES.out, if_pos hany]
                    have HRE2 := Lib.hid hres
                    rw [hbg] at hb
                    clear hbg hany hres
                    generalize T[j].1 = t at ka hxs hzz hb
                    go_wp2_with (go_at_call 66; refine (praxinoscoperef03_begins.calls _ _ true _ hb).mono ?_; rintro e w3 ⟨rfl, hd⟩; have hB3 := hBj.trans (hd.below.mono hBj.size))
                    go_ret3
                    exact ⟨by first | (rw [HRE2.out]; done) | (rw [HRE2.out]; rfl), hB3⟩
                  | false =>
                    have hno2 := Lib.hid (take_no (fun x => begB x.1 s) T j hlt hno.out hbg)
                    rw [hbg] at hb
                    clear hbg
                    generalize T[j].1 = t at ka hxs hzz hb
                    go_wp2_with (go_at_call 66; refine (praxinoscoperef03_begins.calls _ _ false _ hb).mono ?_; rintro e w3 ⟨rfl, hd⟩; have hB3 := hBj.trans (hd.below.mono hBj.size))
                    go_roundw
                    case rel => exact ⟨j + 1, by omega, by go_num, hB3, hno2⟩
                    case measure => simp [intOf]; omega
                · obtain ⟨k0, k1, _⟩ := HCE.out wr hBj
                  have hany : T.any (fun x => begB x.1 s) = false := by
                    have h := hno.out
                    rw [List.take_of_length_le (by omega)] at h
                    rw [List.any_eq_false]
                    intro x hx
                    rw [h x hx]; simp
                  have hres : R = (0, 0, 7) := by rw [HRES.out, hany]; rfl
                  have HRE2 := Lib.hid hres
                  clear hany hres
                  go_wp2
                  go_ret3
                  exact ⟨by first | (rw [HRE2.out]; done) | (rw [HRE2.out]; rfl), hBj⟩

def escU : List UInt8 := [48, 48, 48, 48, 48, 49]
def csL : List (List UInt8) := (tabG false).map fun x => x.1.2.2
def nsL : List Int := (List.range csL.length).map Int.ofNat
def codesF (first : Bool) : List (List UInt8) := if first then csL.set 0 [49] ++ [escU] else csL ++ [[49, 48]] ++ [escU]
def numsF (first : Bool) : List Int := if first then nsL ++ [1000] else nsL ++ [1001] ++ [1000]
/-- The codes that the document reads by, and their numbers. -/
def treeL (first : Bool) : List (List UInt8 × Int) := (codesF first).zip (numsF first)
theorem treeL_fst : ∀ first : Bool, (treeL first).map (·.1) = codesF first := by decide +kernel
theorem treeL_snd : ∀ first : Bool, (treeL first).map (·.2) = numsF first := by decide +kernel
theorem treeL_good : ∀ first : Bool, 0 < (treeL first).length ∧ (treeL first).length ≤ 300 ∧ ∀ x ∈ treeL first, x.1.length ≤ 1000 := by decide +kernel
theorem treeL_code : ∀ first : Bool, ∀ x ∈ treeL first, praxinoscoperef03_code.f 1000 (txb x.1) = some true := by decide +kernel
theorem treeL_apart : ∀ first : Bool, (treeL first).Pairwise (fun x y => begB x.1 y.1 = false ∧ begB y.1 x.1 = false) := by decide +kernel
theorem csL_len : 0 < csL.length ∧ csL.length ≤ 100 := by decide +kernel
theorem make_ok (first : Bool) (A : Option Addr) (c : Nat) (A' : Option Addr) (c' : Nat) (w : World) (codes : List ByteArray) (numbers : List Int) (e1 : codes = (treeL first).map fun x => txb x.1) (e2 : numbers = (treeL first).map (·.2))
    (hC : Kd.C Kd.string w A codes.length codes) (hN : Kd.C (Kd.int .i64) w A' numbers.length numbers) :
    Calls Tryd.prog 53 #[.slice A codes.length c, .slice A' numbers.length c'] w fun e W => ∃ g, e = .returned (.tuple #[.pointer (some ⟨g, 0, none⟩), .int .i64 0]) ∧ IsTree g codes numbers W ∧ Below w.heap.size w W := by
  have hg := treeL_good first
  have hget : ∀ i, i < (treeL first).length → ∃ x, (treeL first)[i]? = some x ∧ codes.getD i ByteArray.empty = txb x.1 := fun i hi => by
    refine ⟨_, List.getElem?_eq_getElem hi, ?_⟩
    rw [e1, List.getD_eq_getElem?_getD, List.getElem?_map, List.getElem?_eq_getElem hi]; rfl
  have hl : codes.length = (treeL first).length := by rw [e1, List.length_map]
  refine make_calls A c codes A' c' numbers w hC hN (by rw [e1, e2, List.length_map, List.length_map]) (by omega) (by omega) (fun i hi => ?_) (fun i k hi hk hne => ?_)
  · obtain ⟨x, hx, hd⟩ := hget i (by omega)
    rw [hd]
    exact treeL_code first x (List.mem_of_getElem? hx)
  · obtain ⟨x, hx, hd⟩ := hget i (by omega)
    obtain ⟨y, hy, hd2⟩ := hget k (by omega)
    rw [hd, hd2, begins_f]
    have hp := List.pairwise_iff_getElem.1 (treeL_apart first)
    have hi' : i < (treeL first).length := by omega
    have hk' : k < (treeL first).length := by omega
    rw [List.getElem?_eq_getElem hi'] at hx
    rw [List.getElem?_eq_getElem hk'] at hy
    rcases Nat.lt_or_gt_of_ne hne with h | h
    · have := (hp i k hi' hk' h).1
      rw [Option.some.inj hx, Option.some.inj hy] at this
      rw [this]
    · have := (hp k i hk' hi' h).2
      rw [Option.some.inj hx, Option.some.inj hy] at this
      rw [this]
def codedP : List S26 := (tabG false).map fun x => ⟨x.1.1, x.1.2.1⟩
set_option maxRecDepth 100000 in
theorem coded_b : praxinoscoperef08_Coded.f 3000 = some (codedP, csL.map txb) := by kernel_rfl

def praxinoscoperef08_read.f (l : List Int) (at_ : Int) (first : Bool) : Option (Int × Int × Int) :=
  if (∀ x ∈ l, 0 ≤ x ∧ x ≤ 255) ∧ l.length ≤ 100000000000000 ∧ at_ ≤ 9223372036854775807 then some (treeG (treeL first) l at_) else none
set_option maxHeartbeats 4000000 in
set_option maxRecDepth 100000 in
theorem read_walk (first : Bool) (A : Option Addr) (c : Nat) (l : List Int) (at_ : Int) (w : World) (hr : (Kd.int .u8).C w A l.length l) (hlc : l.length ≤ c) (hb : ∀ x ∈ l, 0 ≤ x ∧ x ≤ 255) (hl : l.length ≤ 100000000000000) (hat : at_ ≤ 9223372036854775807) :
    Calls Tryd.prog 33 #[.slice A l.length c, .int .i64 at_, .bool first] w fun e W => e = .returned (.tuple #[.int .i64 (treeG (treeL first) l at_).1, .int .i64 (treeG (treeL first) l at_).2.1, .int .i64 (treeG (treeL first) l at_).2.2]) ∧ Below w.heap.size w W := by
  obtain ⟨R, hR⟩ : ∃ R, treeG (treeL first) l at_ = R := ⟨_, rfl⟩
  rw [hR]
  have HR := Lib.hid hr
  have HRR := Lib.hid hR
  have HB := Lib.hid hb
  obtain ⟨CT, hCT⟩ : ∃ CT, csL.map txb = CT := ⟨_, rfl⟩
  have hcd := coded_b
  rw [hCT] at hcd
  have HCD := Lib.hid hcd
  have hlen : CT.length = csL.length := by rw [← hCT, List.length_map]
  have hcs := csL_len
  have hc0 : 0 < CT.length := by omega
  have hc1 : CT.length ≤ 100 := by omega
  have HNS : Hid ((List.range CT.length).map Int.ofNat = nsL) := Lib.hid (by rw [hlen]; rfl)
  have HCT := Lib.hid hCT
  clear hr hR hb hCT hcd hlen hcs
  go_enter Tryd.func33, Tryd.ntmps33
  go_wp2_with (go_at_call 35; refine (praxinoscoperef08_Coded.calls 3000 codedP CT _ HCD.out).mono ?_; rintro e w1 ⟨v0, v1, rfl, _, hR1, hB1⟩; obtain ⟨g, cap, hv1, _⟩ := Kd.R_form hR1 hc0; subst hv1)
  go_loopw [11, 12] (fun s11 s12 wr => ∃ j : Nat, j ≤ CT.length ∧ s12 = .int .i64 j ∧ Kd.R (Kd.int .i64) 3 wr w.heap.size (fun _ => True) s11 ((List.range j).map Int.ofNat) ∧ Kd.R Kd.string 9 wr w.heap.size (fun _ => True) (.slice (some ⟨g, 0, none⟩) CT.length cap) CT ∧ Below w.heap.size w wr) (fun _ s12 _ => CT.length - (intOf s12).toNat)
  case atStart => exact ⟨0, by omega, rfl, Kd.R_nil _ _ _ _ _, hR1, hB1⟩
  case round =>
    obtain ⟨j, hj, rfl, hRn, hRc, hB⟩ := hrel
    by_cases hlt : j < CT.length
    · have hrl : ((List.range j).map Int.ofNat).length = j := by simp
      have hsn : (List.range j).map Int.ofNat ++ [(j : Int)] = (List.range (j + 1)).map Int.ofNat := by rw [List.range_succ, List.map_append]; rfl
      have HSN := Lib.hid hsn
      clear hsn
      generalize (List.range j).map Int.ofNat = xs at hRn hrl HSN
      go_wp2_with ((with_reducible refine gate_builtin (b := .append) (xs := #[.tmp 25, .tmp 27]) rfl ?_); at_builtin; refine Kd.R_append (Kd.int .i64) (w0 := w) w.heap.size rfl (.tmp 25) (.tmp 27) 38 3 (.int .i64 0) 8 rfl Tryd.underlying38 infoI rfl (by decide) (by omega) u11 xs (j : Int) [.int .i64 (j : Int)] (fun _ => True) (fun _ => False) rfl rfl ?aP (fun _ hk => hk.elim) ?aF ?aO ?aB ?aS ?aL ?_; (case aP => exact rfl); (case aF => exact fun _ _ => trivial); (case aO => exact hRn); (case aB => exact hB); (case aS => exact (hB).size); (case aL => omega); intro v2 w2 ho_ hb_ hg_ _; have ht_ := Kd.R_over hRc hRn (by decide) hg_; rw [HSN.out] at ho_)
      go_roundw
      case rel => exact ⟨j + 1, by omega, by go_num, ho_, ht_, hb_⟩
      case measure => simp [intOf]; omega
    · obtain rfl : j = CT.length := by omega
      have hrl : ((List.range CT.length).map Int.ofNat).length = CT.length := by simp
      rw [HNS.out] at hRn hrl
      clear hlt hj HNS
      generalize hns : nsL = ns at hRn hrl
      have HNE := Lib.hid hns
      clear hns
      have hgood := treeL_good first
      have HT1 := Lib.hid hgood.2.2
      have ht0 := hgood.1
      have ht1 := hgood.2.1
      clear hgood
      cases first with
      | true =>
        obtain ⟨hcell, hfrz⟩ := Kd.R_celln ByteArray.empty hRc 0 (by omega) (by omega)
        obtain ⟨cells, hblk⟩ := Kd.R_typed hRc g rfl
        have kc0 : wr.cell? ⟨g, 0, none⟩ = some (.string (rdOf ByteArray.empty CT 0)) := hcell
        have kf0 : wr.frozen? ⟨g, 0, none⟩ = false := hfrz
        clear hcell hfrz
        have hRc' : Kd.string.R 9 (wr.setCell ⟨g, 0, none⟩ (.string (txb [49]))) w.heap.size (fun _ => True) (.slice (some ⟨g, 0, none⟩) CT.length cap) (CT.set 0 (txb [49])) := Kd.R_putn hRc 0 (txb [49])
        have hRn' := Kd.R_set hRn hblk (by decide) 0 (.string (txb [49]))
        have hB' := Below.setCell hB (p := ⟨g, 0, none⟩) (Kd.R_base hRc g rfl) (.string (txb [49]))
        obtain ⟨CL, hCL⟩ : ∃ CL, (treeL true).map (fun x => txb x.1) = CL := ⟨_, rfl⟩
        obtain ⟨NL, hNL⟩ : ∃ NL, (treeL true).map (·.2) = NL := ⟨_, rfl⟩
        have H1 : Hid (CT.set 0 (txb [49]) ++ [txb escU] = CL) := Lib.hid (by
          rw [← hCL, show (treeL true).map (fun x => txb x.1) = ((treeL true).map (·.1)).map txb by rw [List.map_map]; rfl, treeL_fst, ← HCT.out]
          simp [codesF])
        have H2 : Hid (ns ++ [1000] = NL) := Lib.hid (by rw [← hNL, treeL_snd, ← HNE.out]; rfl)
        have hlc2 : (CT.set 0 (txb [49])).length = CT.length := List.length_set
        have hcl2 : CL.length = (treeL true).length := by rw [← hCL, List.length_map]
        have hnl2 : NL.length = (treeL true).length := by rw [← hNL, List.length_map]
        have HCL := Lib.hid hCL
        have HNL := Lib.hid hNL
        have HLC := Lib.hid hlc2
        have HRC := Lib.hid hRc'
        have HRN := Lib.hid hRn'
        have HCLL := Lib.hid hcl2
        have HNLL := Lib.hid hnl2
        clear hCL hNL hRc hRn hblk hlc2 hRc' hRn' hB hcl2 hnl2
        go_wp2_with (first
          | ((with_reducible refine gate_dst (N := 39) rfl ?_); refine Kd.R_lit Kd.string _ 9 ?hg (N := 39) ?hd (xs := [txb escU]) (inner := [.string (txb escU)]) (ok := fun _ => True) (okp := fun _ => True) ?hr ?hp (fun _ hk => hk) trivial (Below.refl _ _) (Nat.le_refl _) (by simp) ?_; (case hd => rfl); (case hg => rfl); (case hr => first | (go_simp; done) | (go_simp; rfl)); (case hp => exact (Reps.one (show Kd.M Kd.string _ _ _ (txb escU) [.string (txb escU)] from rfl) (Reps.none _ _))); intro vla wla hol hbl _ _; have hRcla := Kd.R_below HRC.out hbl; have hRnla := Kd.R_below HRN.out hbl; have hBla := (hB').trans (hbl.mono (hB').size); obtain ⟨Ala, cla, el, _, hCla⟩ := Kd.R_reads hol; subst el; clear hol hbl)
          | ((with_reducible refine gate_builtin (b := .append) (xs := #[.tmp 38, .tmp 39]) rfl ?_); at_builtin; refine Kd.R_append_rows Kd.string (w0 := w) w.heap.size rfl (.tmp 38) (.tmp 39) 59 9 (.string ⟨#[]⟩) 16 rfl Tryd.underlying59 infoS rfl (by decide) (by omega) _ (CT.set 0 (txb [49])) [txb escU] _ _ _ (fun _ => True) (fun _ => False) rfl rfl ?aO ?aR (fun _ _ h => h) (fun _ h => h.elim) ?aF ?aB ?aS ?aL ?_; (case aR => exact hCla); (case aB => exact hBla); (case aF => exact (fun _ _ => trivial)); (case aO => exact hRcla); (case aS => exact (hBla).size); (case aL => rw [HLC.out]; simp only [List.length_cons, List.length_nil]; omega); intro vsa wsa ho_ hb_ hg_ _; have hRnsa := Kd.R_over hRnla hRcla (by decide) hg_; rw [H1.out] at ho_; have hRcs := ho_; obtain ⟨A1, c1, e1, _, _⟩ := Kd.R_reads ho_; subst e1; have hBs := hb_; clear ho_ hb_ hg_)
          | ((with_reducible refine gate_builtin (b := .append) (xs := #[.tmp 41, .tmp 42]) rfl ?_); at_builtin; refine Kd.R_append (Kd.int .i64) (w0 := w) w.heap.size rfl (.tmp 41) (.tmp 42) 38 3 (.int .i64 0) 8 rfl Tryd.underlying38 infoI rfl (by decide) (by omega) _ ns 1000 [.int .i64 1000] (fun _ => True) (fun _ => False) rfl rfl ?aP (fun _ hk => hk.elim) ?aF ?aO ?aB ?aS ?aL ?_; (case aP => exact rfl); (case aF => exact fun _ _ => trivial); (case aO => exact hRnsa); (case aB => exact hBs); (case aS => exact (hBs).size); (case aL => omega); intro vna wna ho_ hb_ hg_ _; have hRcna := Kd.R_over hRcs hRnsa (by decide) hg_; rw [H2.out] at ho_; obtain ⟨A2, c2, e2, _, hC2⟩ := Kd.R_reads ho_; subst e2; obtain ⟨A1', c1', e1', _, hC1'⟩ := Kd.R_reads hRcna; have hC1 : Kd.C Kd.string wna A1 CL.length CL := (by injection e1' with h1_ h2_ h3_; rw [h1_]; exact hC1'); have hbE := hb_; clear ho_ hb_ hg_)
          | (go_at_call 53; refine (make_ok true A1 c1 A2 c2 _ CL NL HCL.out.symm HNL.out.symm hC1 hC2).mono ?_; rintro e w5 ⟨gt, rfl, hT, hB5⟩; have hBT := hbE.trans (hB5.mono hbE.size))
          | (go_at_call 54; rw [← HCL.out, ← HNL.out] at hT; refine (tree_get gt (treeL true) A c l at_ _ hT ht0 ht1 HT1.out (Kd.C_below HR.out hBT) hlc HB.out hl hat).mono ?_; rw [HRR.out]; rintro e w6 ⟨rfl, hB6⟩))
        go_ret3
        exact ⟨by first | rfl | (simp; done), hBT.trans (hB6.mono hBT.size)⟩
      | false =>
        obtain ⟨CL, hCL⟩ : ∃ CL, (treeL false).map (fun x => txb x.1) = CL := ⟨_, rfl⟩
        obtain ⟨NL, hNL⟩ : ∃ NL, (treeL false).map (·.2) = NL := ⟨_, rfl⟩
        obtain ⟨CM, hCM⟩ : ∃ CM, CT ++ [txb [49, 48]] = CM := ⟨_, rfl⟩
        obtain ⟨NM, hNM⟩ : ∃ NM, ns ++ [1001] = NM := ⟨_, rfl⟩
        have H1 := Lib.hid hCM
        have H2 := Lib.hid hNM
        have H3 : Hid (CM ++ [txb escU] = CL) := Lib.hid (by
          rw [← hCL, show (treeL false).map (fun x => txb x.1) = ((treeL false).map (·.1)).map txb by rw [List.map_map]; rfl, treeL_fst, ← hCM, ← HCT.out]
          simp [codesF])
        have H4 : Hid (NM ++ [1000] = NL) := Lib.hid (by rw [← hNL, treeL_snd, ← hNM, ← HNE.out]; rfl)
        have HLM : Hid (CM.length = CT.length + 1) := Lib.hid (by rw [← hCM]; simp)
        have HLN : Hid (NM.length = CT.length + 1) := Lib.hid (by rw [← hNM]; simp [hrl])
        have HCL := Lib.hid hCL
        have HNL := Lib.hid hNL
        have HRC := Lib.hid hRc
        have HRN := Lib.hid hRn
        clear hCL hNL hCM hNM hRc hRn
        go_wp2_with (first
          | ((with_reducible refine gate_dst (N := 33) rfl ?_); refine Kd.R_lit Kd.string _ 9 ?hg (N := 33) ?hd (xs := [txb [49, 48]]) (inner := [.string (txb [49, 48])]) (ok := fun _ => True) (okp := fun _ => True) ?hr ?hp (fun _ hk => hk) trivial (Below.refl _ _) (Nat.le_refl _) (by simp) ?_; (case hd => rfl); (case hg => rfl); (case hr => first | (go_simp; done) | (go_simp; rfl)); (case hp => exact (Reps.one (show Kd.M Kd.string _ _ _ (txb [49, 48]) [.string (txb [49, 48])] from rfl) (Reps.none _ _))); intro vla wla hol hbl _ _; have hRcla := Kd.R_below HRC.out hbl; have hRnla := Kd.R_below HRN.out hbl; have hBla := (hB).trans (hbl.mono (hB).size); obtain ⟨Ala, cla, el, _, hCla⟩ := Kd.R_reads hol; subst el; clear hol hbl)
          | ((with_reducible refine gate_builtin (b := .append) (xs := #[.tmp 32, .tmp 33]) rfl ?_); at_builtin; refine Kd.R_append_rows Kd.string (w0 := w) w.heap.size rfl (.tmp 32) (.tmp 33) 59 9 (.string ⟨#[]⟩) 16 rfl Tryd.underlying59 infoS rfl (by decide) (by omega) _ CT [txb [49, 48]] _ _ _ (fun _ => True) (fun _ => False) rfl rfl ?aO ?aR (fun _ _ h => h) (fun _ h => h.elim) ?aF ?aB ?aS ?aL ?_; (case aR => exact hCla); (case aB => exact hBla); (case aF => exact (fun _ _ => trivial)); (case aO => exact hRcla); (case aS => exact (hBla).size); (case aL => simp only [List.length_cons, List.length_nil]; omega); intro vsa wsa ho_ hb_ hg_ _; have hRnsa := Kd.R_over hRnla hRcla (by decide) hg_; rw [H1.out] at ho_; have hRcs := ho_; obtain ⟨A0, c0, e0, _, _⟩ := Kd.R_reads ho_; subst e0; have hBs := hb_; clear ho_ hb_ hg_)
          | ((with_reducible refine gate_builtin (b := .append) (xs := #[.tmp 35, .tmp 36]) rfl ?_); at_builtin; refine Kd.R_append (Kd.int .i64) (w0 := w) w.heap.size rfl (.tmp 35) (.tmp 36) 38 3 (.int .i64 0) 8 rfl Tryd.underlying38 infoI rfl (by decide) (by omega) _ ns 1001 [.int .i64 1001] (fun _ => True) (fun _ => False) rfl rfl ?aP (fun _ hk => hk.elim) ?aF ?aO ?aB ?aS ?aL ?_; (case aP => exact rfl); (case aF => exact fun _ _ => trivial); (case aO => exact hRnsa); (case aB => exact hBs); (case aS => exact (hBs).size); (case aL => omega); intro vna wna ho_ hb_ hg_ _; have hRcna := Kd.R_over hRcs hRnsa (by decide) hg_; rw [H2.out] at ho_; have hRnt := ho_; have hBt := hb_; clear ho_ hb_ hg_)
          | ((with_reducible refine gate_dst (N := 39) rfl ?_); refine Kd.R_lit Kd.string _ 9 ?hg (N := 39) ?hd (xs := [txb escU]) (inner := [.string (txb escU)]) (ok := fun _ => True) (okp := fun _ => True) ?hr ?hp (fun _ hk => hk) trivial (Below.refl _ _) (Nat.le_refl _) (by simp) ?_; (case hd => rfl); (case hg => rfl); (case hr => first | (go_simp; done) | (go_simp; rfl)); (case hp => exact (Reps.one (show Kd.M Kd.string _ _ _ (txb escU) [.string (txb escU)] from rfl) (Reps.none _ _))); intro vlb wlb hol hbl _ _; have hRclb := Kd.R_below hRcna hbl; have hRnlb := Kd.R_below hRnt hbl; have hBlb := (hBt).trans (hbl.mono (hBt).size); obtain ⟨Alb, clb, el, _, hClb⟩ := Kd.R_reads hol; subst el; clear hol hbl)
          | ((with_reducible refine gate_builtin (b := .append) (xs := #[.tmp 38, .tmp 39]) rfl ?_); at_builtin; refine Kd.R_append_rows Kd.string (w0 := w) w.heap.size rfl (.tmp 38) (.tmp 39) 59 9 (.string ⟨#[]⟩) 16 rfl Tryd.underlying59 infoS rfl (by decide) (by omega) _ CM [txb escU] _ _ _ (fun _ => True) (fun _ => False) rfl rfl ?aO ?aR (fun _ _ h => h) (fun _ h => h.elim) ?aF ?aB ?aS ?aL ?_; (case aR => exact hClb); (case aB => exact hBlb); (case aF => exact (fun _ _ => trivial)); (case aO => exact hRclb); (case aS => exact (hBlb).size); (case aL => simp only [List.length_cons, List.length_nil]; have := HLM.out; omega); intro vsb wsb ho_ hb_ hg_ _; have hRnsb := Kd.R_over hRnlb hRclb (by decide) hg_; rw [H3.out] at ho_; have hRcs2 := ho_; obtain ⟨A1, c1, e1, _, _⟩ := Kd.R_reads ho_; subst e1; have hBs2 := hb_; clear ho_ hb_ hg_)
          | ((with_reducible refine gate_builtin (b := .append) (xs := #[.tmp 41, .tmp 42]) rfl ?_); at_builtin; refine Kd.R_append (Kd.int .i64) (w0 := w) w.heap.size rfl (.tmp 41) (.tmp 42) 38 3 (.int .i64 0) 8 rfl Tryd.underlying38 infoI rfl (by decide) (by omega) _ NM 1000 [.int .i64 1000] (fun _ => True) (fun _ => False) rfl rfl ?aP (fun _ hk => hk.elim) ?aF ?aO ?aB ?aS ?aL ?_; (case aP => exact rfl); (case aF => exact fun _ _ => trivial); (case aO => exact hRnsb); (case aB => exact hBs2); (case aS => exact (hBs2).size); (case aL => have := HLN.out; omega); intro vnb wnb ho_ hb_ hg_ _; have hRcnb := Kd.R_over hRcs2 hRnsb (by decide) hg_; rw [H4.out] at ho_; obtain ⟨A2, c2, e2, _, hC2⟩ := Kd.R_reads ho_; subst e2; obtain ⟨A1', c1', e1', _, hC1'⟩ := Kd.R_reads hRcnb; have hC1 : Kd.C Kd.string wnb A1 CL.length CL := (by injection e1' with h1_ h2_ h3_; rw [h1_]; exact hC1'); have hbE := hb_; clear ho_ hb_ hg_)
          | (go_at_call 53; refine (make_ok false A1 c1 A2 c2 _ CL NL HCL.out.symm HNL.out.symm hC1 hC2).mono ?_; rintro e w5 ⟨gt, rfl, hT, hB5⟩; have hBT := hbE.trans (hB5.mono hbE.size))
          | (go_at_call 54; rw [← HCL.out, ← HNL.out] at hT; refine (tree_get gt (treeL false) A c l at_ _ hT ht0 ht1 HT1.out (Kd.C_below HR.out hBT) hlc HB.out hl hat).mono ?_; rw [HRR.out]; rintro e w6 ⟨rfl, hB6⟩))
        go_ret3
        exact ⟨by first | rfl | (simp; done), hBT.trans (hB6.mono hBT.size)⟩
theorem praxinoscoperef08_read.calls (A0 : Option Addr) (c0 : Nat) (l0 : List Int) (a1 : Int) (a2 : Bool) (r1 r2 r3 : Int) (w : World) (hr0 : Kd.C (Kd.int .u8) w A0 l0.length l0) (hc0 : l0.length ≤ c0) (h : praxinoscoperef08_read.f l0 a1 a2 = some (r1, r2, r3)) :
    Calls Tryd.prog 33 #[.slice A0 l0.length c0, .int .i64 a1, .bool a2] w fun e w' => e = .returned (.tuple #[.int .i64 r1, .int .i64 r2, .int .i64 r3]) ∧ Below w.heap.size w w' := by
  unfold praxinoscoperef08_read.f at h
  split at h
  case isFalse => cases h
  case isTrue hb =>
    have e := Option.some.inj h
    have := read_walk a2 A0 c0 l0 a1 w hr0 hc0 hb.1 hb.2.1 hb.2.2
    rw [e] at this
    exact this
end Go.Proofs.YtdhehfgmhkgbpaaDoorH
