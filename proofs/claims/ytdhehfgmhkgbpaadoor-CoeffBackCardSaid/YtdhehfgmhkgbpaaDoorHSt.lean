/- What a law's own walk carries from call to call: the laid variables, and that nothing that was there is touched. -/
import Derived.Test.YtdhehfgmhkgbpaaDoorPCx2
namespace Go.Proofs.YtdhehfgmhkgbpaaDoorH
open Go.RowKit Go.Proofs.YtdhehfgmhkgbpaaDoorW.PrintWords Go.Proofs.YtdhehfgmhkgbpaaDoor.PC

structure St (w W : World) : Prop where
  w0 : Laid w
  bel : Below w.heap.size w W
theorem St.laid {w W : World} (h : St w W) : Laid W := h.w0.below h.bel
theorem St.refl {w : World} (h : Laid w) : St w w := ⟨h, Below.refl _ _⟩
theorem St.call {w W W' : World} (h : St w W) (hb : Below W.heap.size W W') : St w W' := ⟨h.w0, h.bel.trans (hb.mono h.bel.size)⟩
theorem St.alloc {w W : World} (h : St w W) (o : Obj) : St w (W.alloc o) := ⟨h.w0, h.bel.alloc h.bel.size o⟩
theorem St.drew {w W : World} (h : St w W) : St w W.drew := ⟨h.w0, h.bel.drew⟩
theorem St.set {w W : World} (h : St w W) {p : Addr} (hp : w.heap.size ≤ p.block) (v : Value) : St w (W.setCell p v) := ⟨h.w0, h.bel.setCell hp v⟩
theorem St.size {w W : World} (h : St w W) : w.heap.size ≤ W.heap.size := h.bel.size
theorem St.size1 {w W : World} (h : St w W) : w.heap.size ≤ W.heap.size + 1 := Nat.le_succ_of_le h.bel.size
theorem St.size2 {w W : World} (h : St w W) : w.heap.size ≤ W.heap.size + 1 + 1 := Nat.le_succ_of_le h.size1
/-- A row of bytes in cells, as it is read. -/
theorem C_cells (w : World) (b : Nat) (l : List Int) (t : TypeId) (z : Nat × Nat) (hl : l.length ≤ 9223372036854775807) (h : w.heap[b]? = some (.cells (l.map (Value.int .u8)).toArray t z)) :
    Kd.C (Kd.int .u8) w (some ⟨b, 0, none⟩) l.length l := by
  refine Kd.C_of_reads (d := (0 : Int)) ⟨rfl, hl, fun _ => ⟨_, rfl, fun j hj => ?_⟩⟩
  rw [add_plain, Lib.cell_of_heap h]
  simp [hj]
theorem C_new (W : World) (b : Nat) (l : List Int) (t : TypeId) (hb : b = W.heap.size) (hl : l.length ≤ 9223372036854775807) : Kd.C (Kd.int .u8) (W.alloc (.cells (l.map (Value.int .u8)).toArray t (0, 0))) (some ⟨b, 0, none⟩) l.length l := by
  subst hb
  exact C_cells _ _ l t (0, 0) hl (heap_alloc_new W _)

theorem pair_st {w W : World} (hS : St w W) (a b : Int) : Calls Tryd.prog 25 #[.int .i64 a, .int .i64 b] W fun e W' => e = .returned (.agg #[.int .i64 a, .int .i64 b]) ∧ St w W' :=
  (praxinoscopelaw08_pair.calls a b a b W rfl).mono fun _ _ ⟨h, hb⟩ => ⟨h, hS.call hb⟩
/-- A row of bytes, as the whole numbers that its cells hold. -/
def numsOf (cs : Array Value) : List Int := cs.toList.map intOf
theorem gets_st {w W : World} (hS : St w W) (first : Bool) (a b n e : Int) (cs : Array Value) (t : TypeId) (m : Nat) (h : praxinoscopelaw08_gets.f first a b n e (numsOf cs) = some true) (hcs : cs = ((numsOf cs).map (Value.int .u8)).toArray) (hl : (numsOf cs).length ≤ 1000) (hm : m = (numsOf cs).length) :
    Calls Tryd.prog 24 #[.bool first, .agg #[.int .i64 a, .int .i64 b], .int .i64 n, .int .i64 e, .slice (some ⟨W.heap.size, 0, none⟩) m m] (W.alloc (.cells cs t (0, 0))) fun e W' => e = .returned (.bool true) ∧ St w W' := by
  subst hm
  have hC := C_new W _ (numsOf cs) t rfl (by omega)
  rw [← hcs] at hC
  exact (praxinoscopelaw08_gets.calls first a b n e _ _ (numsOf cs) true _ (hS.alloc _).laid hC (Nat.le_refl _) h).mono fun _ _ ⟨h, hb⟩ => ⟨h, (hS.alloc _).call hb⟩
theorem puts_st {w W : World} (hS : St w W) (a b : Int) (first : Bool) (s : ByteArray) (h : praxinoscopelaw08_puts.f a b first s = some true) :
    Calls Tryd.prog 26 #[.agg #[.int .i64 a, .int .i64 b], .bool first, .string s] W fun e W' => e = .returned (.bool true) ∧ St w W' :=
  (praxinoscopelaw08_puts.calls a b first s true W hS.laid h).mono fun _ _ ⟨h, hb⟩ => ⟨h, hS.call hb⟩
theorem awake_st {w W : World} (hS : St w W) : Calls Tryd.prog 9 #[] W fun e W' => e = .returned (.bool true) ∧ St w W' :=
  (praxinoscopelaw08_awake.calls true W hS.laid (by decide +kernel)).mono fun _ _ ⟨h, hb⟩ => ⟨h, hS.call hb⟩
theorem put_st {w W : World} (hS : St w W) (a b : Int) (first : Bool) (s : ByteArray) (e : Int) (h : coeff_Put.f a b first = some (s, e)) :
    Calls Tryd.prog 15 #[.agg #[.int .i64 a, .int .i64 b], .bool first] W fun r W' => r = .returned (.tuple #[.string s, .int .i64 e]) ∧ St w W' :=
  (coeff_Put.calls a b first s e W hS.laid h).mono fun _ _ ⟨h, hb⟩ => ⟨h, hS.call hb⟩
theorem escape_st {w W : World} (hS : St w W) (a b : Int) (s : ByteArray) (e : Int) (h : coeff_Escape.f a b = some (s, e)) :
    Calls Tryd.prog 16 #[.agg #[.int .i64 a, .int .i64 b]] W fun r W' => r = .returned (.tuple #[.string s, .int .i64 e]) ∧ St w W' :=
  (coeff_Escape.calls a b s e W hS.laid h).mono fun _ _ ⟨h, hb⟩ => ⟨h, hS.call hb⟩
theorem short_st {w W : World} (hS : St w W) (a b : Int) (r : Bool) (h : coeff_Short.f a b = some r) :
    Calls Tryd.prog 21 #[.agg #[.int .i64 a, .int .i64 b]] W fun e W' => e = .returned (.bool r) ∧ St w W' :=
  (coeff_Short.calls a b r W hS.laid h).mono fun _ _ ⟨h, hb⟩ => ⟨h, hS.call hb⟩
theorem end_st {w W : World} (hS : St w W) : Calls Tryd.prog 23 #[] W fun e W' => e = .returned (.string ⟨#[49, 48]⟩) ∧ St w W' :=
  (coeff_End.calls _ W rfl).mono fun _ _ ⟨h, hb⟩ => ⟨h, hS.call hb.below⟩
theorem get_st {w W : World} (hS : St w W) (first : Bool) (p : Int) (cs : Array Value) (t : TypeId) (m : Nat) (r1 r2 : Int) (r3 : Bool) (r4 r5 : Int) (h : coeff_Get.f (numsOf cs) p first = some (r1, r2, r3, r4, r5)) (hcs : cs = ((numsOf cs).map (Value.int .u8)).toArray) (hl : (numsOf cs).length ≤ 1000) (hm : m = (numsOf cs).length) :
    Calls Tryd.prog 11 #[.slice (some ⟨W.heap.size, 0, none⟩) m m, .int .i64 p, .bool first] (W.alloc (.cells cs t (0, 0))) fun e W' => e = .returned (.tuple #[.agg #[.int .i64 r1, .int .i64 r2], .bool r3, .int .i64 r4, .int .i64 r5]) ∧ St w W' := by
  subst hm
  have hC := C_new W _ (numsOf cs) t rfl (by omega)
  rw [← hcs] at hC
  exact (coeff_Get.calls _ _ (numsOf cs) p first r1 r2 r3 r4 r5 _ (hS.alloc _).laid hC (Nat.le_refl _) h).mono fun _ _ ⟨h, hb⟩ => ⟨h, (hS.alloc _).call hb⟩
end Go.Proofs.YtdhehfgmhkgbpaaDoorH
