/-
  The example's map of points: what is found in it.
-/
import Derived.Test.YtinlachbnflpoaaOg
import Derived.WideMake
namespace Go.Proofs.Ytinlachbnflpoaa
open Go.RowKit

/-- The keys of 0 and of infinity. -/
abbrev k0 : Value := .agg #[.int .u64 0, .int .u64 0, .int .u64 0]
abbrev k1 : Value := .agg #[.int .u64 1, .int .u64 0, .int .u64 0]
theorem check0 (b : Bool) (w : World) : (Instr.checkKey b 10000 41 k0).run Try.prog w = .ok () w := by cases b <;> kernel_rfl
theorem check1 (b : Bool) (w : World) : (Instr.checkKey b 10000 41 k1).run Try.prog w = .ok () w := by cases b <;> kernel_rfl
theorem find_none (w : World) : (Instr.findKey 41 k0 []).run Try.prog w = .ok none w := by kernel_rfl
theorem find_1 (w : World) (v : Value) (c : Nat) : (Instr.findKey 41 k1 [{ key := k0, val := v, born := c }]).run Try.prog w = .ok none w := by kernel_rfl
theorem find_0 (w : World) (v u : Value) (c d : Nat) : (Instr.findKey 41 k0 [{ key := k0, val := v, born := c }, { key := k1, val := u, born := d }]).run Try.prog w = .ok (some (0, v)) w := by kernel_rfl
theorem under43 : Try.prog.underlying 43 = some (.map 41 3) := by kernel_rfl
@[go_sem] theorem run_mm (w : World) : (Instr.makeMap 43 none).run Try.prog w = .ok (.map (some w.heap.size)) (w.alloc (.map #[] 0)) := run_makeMap_plain w 43
/-- The world in which the map at block r is the object o. -/
def setMap (w : World) (r : Nat) (o : Obj) : World := { w with heap := w.heap.setIfInBounds r o }
@[go_sem] theorem upd_first (w : World) (r c : Nat) (v : Value) (hb : w.heap[r]? = some (.map #[] c)) :
    (Instr.mapUpdate 43 (.map (some r)) k0 v).run Try.prog w = .ok () (setMap w r (.map #[{ key := k0, val := v, born := c }] (c + 1))) := by
  have h1 : (Instr.findKey 41 k0 (#[] : Array MapEntry).toList).run Try.prog w = .ok none w := find_none w
  simp [Instr.mapUpdate, run_underlying under43, MapKept.run_getObj_map hb, check0, find_none, MapKept.run_setObj_map _ hb, Result.andThen, setMap]
@[go_sem] theorem upd_second (w : World) (r c : Nat) (v u : Value) (b : Nat) (hb : w.heap[r]? = some (.map #[{ key := k0, val := v, born := b }] c)) :
    (Instr.mapUpdate 43 (.map (some r)) k1 u).run Try.prog w = .ok () (setMap w r (.map #[{ key := k0, val := v, born := b }, { key := k1, val := u, born := c }] (c + 1))) := by
  simp [Instr.mapUpdate, run_underlying under43, MapKept.run_getObj_map hb, check1, find_1, MapKept.run_setObj_map _ hb, Result.andThen, setMap]
@[go_sem] theorem look_1 (w : World) (r c : Nat) (v : Value) (b : Nat) (hb : w.heap[r]? = some (.map #[{ key := k0, val := v, born := b }] c)) :
    (Instr.lookup 43 (.map (some r)) k1 true).run Try.prog w = .ok (.tuple #[.int .i64 0, .bool false]) w := by
  have hz : (zeroValue 3).run Try.prog w = .ok (.int .i64 0) w := by kernel_rfl
  simp [Instr.lookup, run_underlying under43, MapKept.run_getObj_map hb, check1, find_1, hz, Result.andThen]
@[go_sem] theorem look_0 (w : World) (r c : Nat) (v u : Value) (b d : Nat) (hb : w.heap[r]? = some (.map #[{ key := k0, val := v, born := b }, { key := k1, val := u, born := d }] c)) :
    (Instr.lookup 43 (.map (some r)) k0 true).run Try.prog w = .ok (.tuple #[v, .bool true]) w := by
  simp [Instr.lookup, run_underlying under43, MapKept.run_getObj_map hb, check0, find_0, Result.andThen]
/-- The map is not where the cells lie. -/
theorem setMap_below {w : World} {r : Nat} {o : Obj} {B : Nat} (h : B ≤ r) : Below B w (setMap w r o) :=
  ⟨rfl, rfl, rfl, by simp [setMap], fun k hk => by simp only [setMap]; rw [Array.getElem?_setIfInBounds_ne (by omega)]⟩
theorem setMap_heap {w : World} {r : Nat} {o p : Obj} (h : w.heap[r]? = some p) : (setMap w r o).heap[r]? = some o := by
  have hl := (Array.getElem?_eq_some_iff.1 h).1
  simp [setMap, hl]
theorem setMap_cell {w : World} {r : Nat} {o : Obj} (a : Addr) (h : a.block ≠ r) : (setMap w r o).cell? a = w.cell? a :=
  World.cell?_of_block (by simp only [setMap]; rw [Array.getElem?_setIfInBounds_ne (Ne.symm h)])
theorem setMap_frozen {w : World} {r : Nat} {o : Obj} (a : Addr) (h : a.block ≠ r) : (setMap w r o).frozen? a = w.frozen? a :=
  World.frozen?_of_block (by simp only [setMap]; rw [Array.getElem?_setIfInBounds_ne (Ne.symm h)])
end Go.Proofs.Ytinlachbnflpoaa
