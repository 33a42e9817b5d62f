/-
  SEAT E: heap.lastOf, at a list of no free places: -1; what lay lies as it lay.
-/
import Derived.RangeFuncFrom
import Derived.RangeFuncNested
import Derived.RangeFuncBound
import Derived.RangeFuncCalls
import Derived.RangeFuncLeaves
import Derived.Shelf.Abstract
import Derived.Shelf.RegionOpen
import Derived.WalkKit
import Derived.OwnWalkIn
import Derived.TacticsInMore
import Derived.LoopNIn
import Derived.LoopIn
import Derived.Test.YtepchknpgeopfaaGreatDoorProg
set_option linter.unusedVariables false
set_option linter.unusedSimpArgs false
namespace Go.Proofs
open Go.RowKit Go.Shelf
attribute [local go_sem] Oper.semAt_some

set_option maxRecDepth 100000 in
set_option maxHeartbeats 2000000 in
theorem Tryz.backward (a : Option Addr) (l c : Nat) (w : World) :
    Calls Tryz.prog 325 #[.slice a l c] w fun e w' => e = .returned (.func (.func 343) #[] #[.pointer (some ⟨w.heap.size, 0, none⟩)]) ∧ w' = w.alloc (.cells #[.slice a l c] 168) := by
  go_enter Tryz.func325, Tryz.ntmps325
  go_wp2
  go_ret
  exact ⟨rfl, rfl⟩

set_option maxRecDepth 100000 in
set_option maxHeartbeats 2000000 in
theorem Tryz.back_stops (n B n₀ c : Nat) (a : Option Addr) (w : World) (hb : B < w.heap.size) (hB : w.cell? ⟨B, 0, none⟩ = some (.slice a 0 c)) :
    SeqStopsK Fence.wide n Tryz.prog 343 #[.pointer (some ⟨B, 0, none⟩)] (fun x : Empty => x.elim) (Below n₀) (fun _ => True) (fun _ => False) 0 w := by
  intro l J Jx W hW hJ hJx hY h0
  have hc : W.cell? ⟨B, 0, none⟩ = some (.slice a 0 c) := (hW.cell (p := ⟨B, 0, none⟩) hb).trans hB
  refine callsIn_of_wp Tryz.func343 rfl trivial ?_ rfl
  simp only [Tryz.ntmps343, List.size_toArray, List.length_cons, List.length_nil, Nat.reduceAdd, Nat.reduceSub, Array.replicate_succ, Array.replicate_zero, List.push_toArray, List.append_toArray, List.nil_append, List.cons_append]
  gi_wp2
  gi_loopw [3] (fun p wr => p = .int .i64 (-1) ∧ wr = W) (fun _ _ => 0)
  case atStart => exact ⟨rfl, rfl⟩
  case round =>
    obtain ⟨rfl, rfl⟩ := hrel
    gi_wp2
    go_end0
    exact ⟨⟨_, rfl⟩, .inl ⟨[], trivial, h0⟩⟩

theorem Tryz.cell_at {W : World} {B : Nat} {v : Value} {t : TypeId} (h : W.heap[B]? = some (.cells #[v] t (0, 0))) : W.cell? ⟨B, 0, none⟩ = some v ∧ W.frozen? ⟨B, 0, none⟩ = false := by
  constructor <;> simp [World.cell?, World.frozen?, h]
theorem Tryz.cell_new (W : World) (v : Value) (t : TypeId) : (W.alloc (.cells #[v] t)).cell? ⟨W.heap.size, 0, none⟩ = some v ∧ (W.alloc (.cells #[v] t)).frozen? ⟨W.heap.size, 0, none⟩ = false :=
  Tryz.cell_at (World.alloc_heap_new W _)
theorem Tryz.cell_old {W : World} {a : Addr} {v : Value} (o : Obj) (h : W.cell? a = some v) : (W.alloc o).cell? a = some v := cell_kept h (World.grownBy_alloc W o none) (fun r e => by cases e)
theorem Tryz.frozen_old {W : World} {a : Addr} {v : Value} (o : Obj) (h : W.cell? a = some v) (hf : W.frozen? a = false) : (W.alloc o).frozen? a = false := (frozen_kept h (World.grownBy_alloc W o none) (fun r e => by cases e)).trans hf

set_option maxRecDepth 100000 in
set_option maxHeartbeats 2000000 in
theorem Tryz.last_nil (n c : Nat) (a : Option Addr) (k : Int) (w : World) :
    CallsIn Fence.wide (n + 3) Tryz.prog 290 #[.slice a 0 c, .int .i64 k] w fun e W' => e = .returned (.int .i64 (-1)) ∧ Below w.heap.size w W' := by
  refine callsIn_of_wp_marks Tryz.func290 rfl trivial ?_ rfl
  simp only [Tryz.ntmps290, List.size_toArray, List.length_cons, List.length_nil, Nat.reduceAdd, Nat.reduceSub, Array.replicate_succ, Array.replicate_zero, List.push_toArray, List.append_toArray, List.nil_append, List.cons_append]
  gi_wp2_with (refine ⟨trivial, ?_⟩; gi_at_call 325; refine (callsIn_wide.2 (Tryz.backward _ _ _ _)).mono ?_; rintro e w' ⟨rfl, rfl⟩)
  have c0 := Tryz.cell_new w (.int .i64 k) 3
  have c1 := Tryz.cell_new (w.alloc (.cells #[.int .i64 k] 3)) (.int .i64 0) 3
  have c2 := Tryz.cell_new ((w.alloc (.cells #[.int .i64 k] 3)).alloc (.cells #[.int .i64 0] 3)) (.slice a 0 c) 168
  simp only [World.size_alloc] at c1 c2
  have hB0 : Below w.heap.size w (((w.alloc (.cells #[.int .i64 k] 3)).alloc (.cells #[.int .i64 0] 3)).alloc (.cells #[.slice a 0 c] 168)) := (((Below.refl _ w).alloc (Nat.le_refl _) _).alloc (by simp) _).alloc (by simp; omega) _
  refine wpIn_rangeFunc_ownF (α := Empty) rfl (by omega) (gf := 343) (lb := #[.pointer (some ⟨w.heap.size + 1 + 1, 0, none⟩)]) rfl trivial (enters_of Tryz.func343 (by kernel_rfl) rfl)
    (Tryz.back_stops (n + 3 - 1) (w.heap.size + 1 + 1) w.heap.size c a (((w.alloc (.cells #[.int .i64 k] 3)).alloc (.cells #[.int .i64 0] 3)).alloc (.cells #[.slice a 0 c] 168)) (by simp only [World.size_alloc]; omega) c2.1) belowK_t (belowK_b (by simp only [World.size_alloc]; omega)) (Below.refl _ _) (fun x => x.elim)
    (fun pre W => (W.cell? ⟨w.heap.size + 1, 0, none⟩ = some (.int .i64 0) ∧ W.frozen? ⟨w.heap.size + 1, 0, none⟩ = false) ∧ Below w.heap.size w W)
    (fun _ _ _ => False)
    (OwnFrom.and (Own.from (fun s A B row hs hg hr => ⟨cell_kept hs.1 hg hr, (frozen_kept hs.1 hg hr).trans hs.2⟩) _) (ownFrom_below (Nat.le_refl _) (by simp only [World.size_alloc]; omega)))
    (fun _ _ _ _ _ hs _ _ => hs)
    ⟨⟨Tryz.cell_old _ c1.1, Tryz.frozen_old _ c1.1 c1.2⟩, hB0⟩
    (fun x => x.elim) ?assign ?body ?done ?stop
  case assign => intro l x; exact x.elim
  case body => intro l pre x; exact x.elim
  case done =>
    rintro D ys W hD - ⟨⟨hcr, hfr⟩, hB⟩ hK
    gi_wp2
    have hK' := (KeepsOthers.setCell W ⟨w.heap.size + 1, 0, none⟩ (.int .i64 (-1))).same D _ hK rfl
    refine ⟨by simp, .inl ⟨_, _, rfl, run_takeDeferred hK', ?_⟩⟩
    have hc5 := cell_kept (World.cell?_setCell_same' W ⟨w.heap.size + 1, 0, none⟩ (.int .i64 (-1)) (by rw [hcr]; rfl)) (grownBy_putObj' _ D (.deferred none)) (fun r e => by cases e; exact ⟨_, hK', rfl⟩)
    refine ⟨.int .i64 (-1), ?_, rfl, (hB.setCell (p := ⟨w.heap.size + 1, 0, none⟩) (by simp) _).trans (belowK_b (w := w) (Nat.le_refl _) _ D _ _ (by simp at hD; omega) hK' rfl rfl)⟩
    simp [results, Tryz.f290, go_sem, hc5]
  case stop =>
    rintro D c pre W _ h _ _
    exact h.elim

theorem Tryz.lastOf_nil (c : Nat) (a : Option Addr) (k : Int) (w : World) :
    Calls Tryz.prog 290 #[.slice a 0 c, .int .i64 k] w fun e W' => e = .returned (.int .i64 (-1)) ∧ Below w.heap.size w W' :=
  callsIn_wide.1 (Tryz.last_nil 0 c a k w)

end Go.Proofs
