/- Plain: pairs and an end, one behind the other, are got as they were. -/
import Derived.Test.YtdhehfgmhkgbpaaDoorQApart2
import Derived.Test.YtdhehfgmhkgbpaaDoorPCx5
namespace Go.Proofs.YtdhehfgmhkgbpaaDoorH
open Go.RowKit Go.Proofs.YtdhehfgmhkgbpaaDoorW.PrintWords Go.Proofs.YtdhehfgmhkgbpaaDoorW.PrintLast Go.Proofs.YtdhehfgmhkgbpaaDoorW.PrintMore Go.Proofs.YtdhehfgmhkgbpaaDoor.PC

def txtL (first : Bool) : List (Int × Int) → List UInt8
  | [] => []
  | q :: qs => putT q.1 q.2 first ++ txtL false qs
def PrL (ps : List (Int × Int)) : Prop := ∀ q ∈ ps, Pr q.1 q.2
theorem txtL_append (first : Bool) (ps qs : List (Int × Int)) : txtL first (ps ++ qs) = txtL first ps ++ txtL (first && ps.isEmpty) qs := by
  cases ps with
  | nil => simp [txtL]
  | cons p ps =>
    have : ∀ (ps qs : List (Int × Int)), txtL false (ps ++ qs) = txtL false ps ++ txtL false qs := fun ps qs => by
      induction ps with
      | nil => simp [txtL]
      | cons p ps ih => simp [txtL, ih]
    simp [txtL, this]
theorem txtL_bin (first : Bool) (ps : List (Int × Int)) (h : PrL ps) : Bin (txtL first ps) := by
  induction ps generalizing first with
  | nil => intro c hc; cases hc
  | cons q qs ih =>
    intro c hc
    rw [txtL, List.mem_append] at hc
    rcases hc with hc | hc
    · exact (putT_bin first (h q List.mem_cons_self)).1 c hc
    · exact ih false (fun x hx => h x (List.mem_cons_of_mem _ hx)) c hc
theorem txtL_len (first : Bool) (ps : List (Int × Int)) (h : PrL ps) : (txtL first ps).length ≤ 20 * ps.length := by
  induction ps generalizing first with
  | nil => simp [txtL]
  | cons q qs ih =>
    have h1 := (putT_length first (h q List.mem_cons_self)).2
    have h2 := ih false (fun x hx => h x (List.mem_cons_of_mem _ hx))
    rw [txtL, List.length_append, List.length_cons]
    omega
theorem getS_end (r : List UInt8) : getS (([49, 48] ++ r).take 20) false = (0, 0, true, 2, 0) := by
  have h : ∃ t, ([49, 48] ++ r).take 20 = 49 :: 48 :: t := ⟨r.take 18, by simp⟩
  obtain ⟨t, ht⟩ := h
  rw [ht]
  unfold getS
  rw [if_neg, if_pos]
  · rfl
  · intro h
    rw [sameL_iff] at h
    rcases h with ⟨u, hu⟩ | ⟨u, hu⟩ <;> simp [escL] at hu
abbrev sq (q : Int × Int) : S26 := ⟨q.1, q.2⟩
theorem code_ok (first : Bool) {q : Int × Int} (h : Pr q.1 q.2) (k : Nat) (hk : 1001 ≤ k) : praxinoscopelaw08_code.f k (tx (putT q.1 q.2 first)) 20 = some true := by
  have hb := putT_bin first h
  have hl := putT_length first h
  exact at_rounds (praxinoscopelaw08_code.mono _ _) hk (code_f _ 20 hb.1 hb.2 (by omega) (by omega) (by omega))

section
variable (first : Bool) (ps : List (Int × Int)) (hps : PrL ps) (hn : ps.length ≤ 40) (out : List Int) (hout : Part (digits (txtL first ps ++ [49, 48]) ++ []) (digits (txtL first ps ++ [49, 48]) ++ []).length out)
include hps hn hout
theorem out_small : Bytes out ∧ out.length ≤ 1000 := by
  refine ⟨hout.byt, ?_⟩
  have h := hout.len
  have h2 := txtL_len first ps hps
  simp [digits] at h
  omega
theorem get_at (f : Bool) (pre : List (Int × Int)) (rest : List UInt8) (hsp : txtL first ps ++ [49, 48] = txtL first pre ++ rest) :
    ∃ r, coeff_Get.f out ((txtL first pre).length : Int) f = some (getS ((rest ++ r).take 20) f) := by
  have hsm := out_small first ps hps hn out hout
  have hbin : Bin (txtL first ps ++ [49, 48]) := fun c hc => by
    rw [List.mem_append] at hc
    rcases hc with hc | hc
    · exact txtL_bin first ps hps c hc
    · simp at hc; exact hc.symm
  obtain ⟨r, hr⟩ := getP_part (txtL first ps ++ [49, 48]) [] out hbin hout (txtL first pre).length (by rw [hsp, List.length_append]; omega) f
  refine ⟨r, ?_⟩
  unfold coeff_Get.f
  rw [if_pos ⟨hsm.1, by omega⟩, hr, hsp, List.drop_left]
theorem list_l1 (k : Nat) : ∀ (qs pre : List (Int × Int)), ps = pre ++ qs → praxinoscopelaw08_CoeffList.l1 (k + qs.length + 1) first true (ps.map sq) (tx (txtL first ps ++ [49, 48])) out ((txtL first pre).length : Int) (pre.length : Int) = some true := by
  intro qs
  induction qs with
  | nil =>
    intro pre hp
    rw [List.append_nil] at hp
    subst hp
    obtain ⟨r, hr⟩ := get_at first ps hps hn out hout false ps [49, 48] rfl
    rw [getS_end] at hr
    have hl := txtL_len first ps hps
    have hw : wrap64 (((txtL first ps).length : Int) + 2) = ((txtL first ps).length : Int) + 2 := by unfold wrap64; omega
    simp only [praxinoscopelaw08_CoeffList.l1, List.length_nil, Nat.add_zero, List.length_map]
    rw [if_neg (by omega), hr, Option.bind_some]
    simp only [if_true, hw, tx_size, List.length_append, List.length_cons, List.length_nil]
    congr 1
    rw [beq_iff_eq]
    omega
  | cons q qs ih =>
    intro pre hp
    have hq : Pr q.1 q.2 := hps q (by rw [hp]; simp)
    have hnext := ih (pre ++ [q]) (by rw [hp]; simp)
    have hl := txtL_len first ps hps
    have hlen : ps.length = pre.length + qs.length + 1 := by rw [hp]; simp; omega
    have hsp : txtL first ps ++ [49, 48] = txtL first pre ++ (putT q.1 q.2 (first && pre.isEmpty) ++ (txtL false qs ++ [49, 48])) := by
      rw [hp, txtL_append, txtL]; simp
    have hpl : (txtL first pre).length ≤ 20 * pre.length := txtL_len first pre (fun x hx => hps x (by rw [hp]; simp [hx]))
    have htl : txtL first (pre ++ [q]) = txtL first pre ++ putT q.1 q.2 (first && pre.isEmpty) := by rw [txtL_append, txtL, txtL, List.append_nil]
    have hplen := putT_length (first && pre.isEmpty) hq
    have hw1 : wrap64 (((txtL first pre).length : Int) + ((putT q.1 q.2 (first && pre.isEmpty)).length : Int)) = ((txtL first (pre ++ [q])).length : Int) := by
      rw [htl, List.length_append]; unfold wrap64; omega
    have hw2 : wrap64 ((pre.length : Int) + 1) = ((pre ++ [q]).length : Int) := by
      rw [List.length_append]; unfold wrap64; simp; omega
    have hrd : rd_T26 (ps.map sq) (pre.length : Int) = sq q := by
      unfold rd_T26
      rw [Int.toNat_natCast, List.getD_eq_getElem?_getD, hp, List.map_append, List.getElem?_append_right (by simp)]
      simp
    have hfl : ((pre.length : Int) == 0) = pre.isEmpty := by cases pre <;> simp; omega
    obtain ⟨r, hr⟩ := get_at first ps hps hn out hout (first && pre.isEmpty) pre _ hsp
    rw [List.append_assoc, getS_put _ hq] at hr
    show praxinoscopelaw08_CoeffList.l1 (k + qs.length + 1 + 1) first true _ _ _ _ _ = _
    generalize k + qs.length + 1 = K at hnext
    rw [praxinoscopelaw08_CoeffList.l1]
    simp only [List.length_map]
    rw [if_pos (by omega), hfl]
    have hne : (!(q.1 == q.1) || !(q.2 == q.2)) = false := by simp
    cases first
    · rw [if_neg (by decide)]
      simp only [Bool.false_and] at hr hw1 hplen
      rw [hr, Option.bind_some]
      simp only [if_true]
      rw [if_neg (by decide), if_pos (by omega), hrd, if_neg (by simp), if_neg (by omega), hw1, hw2]
      exact hnext
    · rw [if_pos rfl]
      simp only [Bool.true_and] at hr hw1 hplen
      rw [hr, Option.bind_some]
      simp only [if_true]
      rw [if_neg (by decide), if_pos (by omega), hrd, if_neg (by simp), if_neg (by omega), hw1, hw2]
      exact hnext
end
theorem list_j2 (first : Bool) (ps : List (Int × Int)) (hps : PrL ps) (hn : ps.length ≤ 40) (k : Nat) (hk : 3000 ≤ k) (b : Bool) : praxinoscopelaw08_CoeffList.j2 (k + 1) first true (ps.map sq) (tx (txtL first ps)) b = some true := by
  simp only [praxinoscopelaw08_CoeffList.j2]
  cases b
  · have hl := txtL_len first ps hps
    have e : tx (txtL first ps) ++ (⟨#[49, 48]⟩ : ByteArray) = tx (txtL first ps ++ [49, 48]) := by
      rw [← tx_append]; rfl
    rw [if_neg (by decide), if_pos (by rw [tx_size]; omega), e]
    obtain ⟨out, ho, hp⟩ := bytes_f (txtL first ps ++ [49, 48]) [] (by simp; omega) k (by simp; omega)
    have ho' : praxinoscopelaw08_bytes.f k (tx (txtL first ps ++ [49, 48])) [] = some out := ho
    rw [ho', Option.bind_some]
    obtain ⟨m, rfl⟩ : ∃ m, k = m + ps.length + 1 := ⟨k - ps.length - 1, by omega⟩
    exact list_l1 first ps hps hn out hp m ps [] rfl
  · rw [if_pos rfl]
theorem list_l0 (runs levels : List Int) (first : Bool) (hr : ∀ x ∈ runs, (Lit.int .i64 x).wf = true) (hl : ∀ x ∈ levels, (Lit.int .i64 x).wf = true) (h40 : runs.length ≤ 40) :
    ∀ (d : Nat) (ps : List (Int × Int)) (k : Nat), PrL ps → runs.length = ps.length + d → 4000 + 2 * d ≤ k →
      praxinoscopelaw08_CoeffList.l0 k runs levels first true (ps.map sq) (tx (txtL first ps)) (ps.length : Int) = some true := by
  have hout : ∀ (ps : List (Int × Int)) (k : Nat), PrL ps → ps.length ≤ 40 → 3002 ≤ k → praxinoscopelaw08_CoeffList.j1 k runs levels first true (ps.map sq) (tx (txtL first ps)) (ps.length : Int) false = some true := by
    intro ps k hps hn hk
    obtain ⟨k, rfl⟩ : ∃ m, k = m + 1 + 1 := ⟨k - 2, by omega⟩
    simp only [praxinoscopelaw08_CoeffList.j1]
    rw [if_neg (by decide)]
    split
    · exact list_j2 first ps hps hn k (by omega) _
    · exact list_j2 first ps hps hn k (by omega) _
  intro d
  induction d with
  | zero =>
    intro ps k hps hd hk
    obtain ⟨k, rfl⟩ : ∃ m, k = m + 1 := ⟨k - 1, by omega⟩
    simp only [praxinoscopelaw08_CoeffList.l0]
    rw [if_neg (by omega)]
    exact hout ps k hps (by omega) (by omega)
  | succ d ih =>
    intro ps k hps hd hk
    obtain ⟨k, rfl⟩ : ∃ m, k = m + 1 + 1 := ⟨k - 2, by omega⟩
    simp only [praxinoscopelaw08_CoeffList.l0]
    rw [if_pos (by omega)]
    by_cases hlv : (ps.length : Int) < (levels.length : Int)
    · have hr1 : (Lit.int .i64 (rd runs (ps.length : Int))).wf = true := by
        unfold rd
        rw [Int.toNat_natCast, List.getD_eq_getElem?_getD, List.getElem?_eq_getElem (show ps.length < runs.length by omega)]
        exact hr _ (List.getElem_mem _)
      have hl1 : (Lit.int .i64 (rd levels (ps.length : Int))).wf = true := by
        unfold rd
        rw [Int.toNat_natCast, List.getD_eq_getElem?_getD, List.getElem?_eq_getElem (show ps.length < levels.length by omega)]
        exact hl _ (List.getElem_mem _)
      obtain ⟨r, v, hof, hp⟩ := of_f _ _ (wfi hr1) (wfi hl1)
      have hps' : PrL (ps ++ [(r, v)]) := fun x hx => by
        rw [List.mem_append] at hx
        rcases hx with hx | hx
        · exact hps x hx
        · rw [List.mem_singleton.1 hx]; exact hp
      have hnext := ih (ps ++ [(r, v)]) k hps' (by simp; omega) (by omega)
      have hw : wrap64 ((ps.length : Int) + 1) = ((ps ++ [(r, v)]).length : Int) := by
        rw [List.length_append]; unfold wrap64; simp; omega
      have hm : ps.map sq ++ [(⟨r, v⟩ : S26)] = (ps ++ [(r, v)]).map sq := by rw [List.map_append]; rfl
      have hfl : ((ps.length : Int) == 0) = ps.isEmpty := by cases ps <;> simp; omega
      have htl : tx (txtL first ps) ++ tx (putT r v (first && ps.isEmpty)) = tx (txtL first (ps ++ [(r, v)])) := by
        rw [tx_append, txtL_append, txtL, txtL, List.append_nil]
      have hpl := txtL_len first ps hps
      have hput := putT_length (first && ps.isEmpty) hp
      rw [decide_eq_true hlv]
      rw [praxinoscopelaw08_CoeffList.j1]
      rw [if_pos rfl, if_pos (by omega), if_pos (by omega), if_pos hlv, hof, Option.bind_some, hfl]
      simp only []
      cases first
      · rw [if_neg (by decide)]
        simp only [Bool.false_and] at htl hput
        rw [put_f false hp, Option.bind_some]
        simp only []
        rw [if_pos trivial, code_ok false (q := (r, v)) hp k (by omega), Option.bind_some, if_pos rfl, if_pos (by rw [List.length_map]; omega), if_pos (by rw [tx_size, tx_size]; omega), hw, hm, htl]
        exact hnext
      · rw [if_pos rfl]
        simp only [Bool.true_and] at htl hput
        rw [put_f ps.isEmpty hp, Option.bind_some]
        simp only []
        rw [if_pos trivial, code_ok ps.isEmpty (q := (r, v)) hp k (by omega), Option.bind_some, if_pos rfl, if_pos (by rw [List.length_map]; omega), if_pos (by rw [tx_size, tx_size]; omega), hw, hm, htl]
        exact hnext
    · rw [decide_eq_false hlv]
      exact hout ps (k + 1) hps (by omega) (by omega)
theorem list_pure (runs levels : List Int) (first : Bool) (hr : ∀ x ∈ runs, (Lit.int .i64 x).wf = true) (hl : ∀ x ∈ levels, (Lit.int .i64 x).wf = true) : praxinoscopelaw08_CoeffList.f 5000 runs levels first = some true := by
  unfold praxinoscopelaw08_CoeffList.f
  rw [awake_f, Option.bind_some]
  by_cases h : (runs.length : Int) > 40
  · rw [if_pos h]
  · rw [if_neg h]
    exact list_l0 runs levels first hr hl (by omega) runs.length [] 5000 (fun x hx => by cases hx) (by simp) (by omega)
theorem list_law (A0 : Option Addr) (c0 : Nat) (l0 : List Int) (A1 : Option Addr) (c1 : Nat) (l1 : List Int) (first : Bool) (w : World) (hL : Laid w)
    (hC0 : Kd.C (Kd.int .i64) w A0 l0.length l0) (hc0 : l0.length ≤ c0) (hw0 : ∀ x ∈ l0, (Lit.int .i64 x).wf = true) (hC1 : Kd.C (Kd.int .i64) w A1 l1.length l1) (hc1 : l1.length ≤ c1) (hw1 : ∀ x ∈ l1, (Lit.int .i64 x).wf = true) :
    Calls Tryd.prog 5 #[.slice A0 l0.length c0, .slice A1 l1.length c1, .bool first] w fun e w' => e = .returned (.bool true) ∧ Below w.heap.size w w' :=
  praxinoscopelaw08_CoeffList.calls 5000 A0 c0 l0 A1 c1 l1 first true w hL hC0 hc0 hC1 hc1 (list_pure l0 l1 first hw0 hw1)
end Go.Proofs.YtdhehfgmhkgbpaaDoorH
