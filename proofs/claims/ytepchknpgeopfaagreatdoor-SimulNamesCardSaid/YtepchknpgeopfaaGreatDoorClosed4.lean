/-
  SEAT E: the environment of the law's meaning is sound; the law, called.
-/
import Derived.Test.YtepchknpgeopfaaGreatDoorClosed3
import Derived.Test.YtepchknpgeopfaaGreatDoorSim3
set_option linter.unusedVariables false
set_option linter.unusedSimpArgs false
namespace Go.Proofs.YtepchknpgeopfaaGreatDoor.E
open Go Go.Proofs

theorem giveB_ok {P : Program} {f : FuncId} {rows : List RowB} {v : Value} (hc : ∀ H : AH, CallAt P f [] H (mapV (H.next + ·) v) (H.lay rows)) {a : List Value} {H H' : AH} {u : Value} (h : giveB rows v a H = some (u, H')) : CallAt P f a H u H' := by
  unfold giveB at h
  cases a with
  | nil => cases h; exact hc H
  | cons x xs => cases h

theorem E3.ok : E3.Ok := by
  refine ⟨mixed, noGoroutine, fun f p hp args H v H' h => ?_⟩
  have hp' : prim3 f = some p := hp
  unfold prim3 at hp'
  split at hp'
  · cases hp'
    refine giveB_ok (fun H => ?_) h
    rw [AH.lay_nil]
    exact callAt_awake H
  · cases hp'; exact giveB_ok callAt_5 h
  · cases hp'; exact giveB_ok callAt_6 h
  · cases hp'; exact giveB_ok callAt_7 h
  · exact E0.ok.2.2 f p hp' args H v H' h

/-- THE LAW, CALLED: true; nothing that lay has turned. -/
theorem law (n : Int) (s : ByteArray) (w : World) : Calls Tryz.prog 3 #[.int .i64 n, .string s] w fun e w' =>
    e = .returned (.bool true) ∧ w'.os = w.os ∧ w'.output = w.output ∧ w.heap.size ≤ w'.heap.size ∧ ∀ i, i < w.heap.size → w'.heap[i]? = w.heap[i]? := by
  obtain ⟨H', hd⟩ := d3 n s ⟨0, fun _ => none⟩
  have hR : Rel (fun _ => none) ⟨0, fun _ => none⟩ w := ⟨fun _ _ => rfl, (fun _ _ h => by cases h), (fun _ _ h => by cases h), (fun _ _ _ _ _ _ h => by cases h)⟩
  rcases den_sim E3.ok hd with ⟨_, h⟩ | h
  · refine (h _ w #[.int .i64 n, .string s] hR (.cons (.int _ _) (.cons (.str _) .nil))).mono ?_
    intro e w' hp
    obtain ⟨vc, ρ', h0, h1, h2, h3⟩ := hp
    cases h3
    exact ⟨h0, h2.os, h2.out, h2.size, fun i hi => h2.keep i hi (fun ⟨b, x, j, hb, _⟩ => by cases hb)⟩
  · exfalso
    obtain ⟨w', vc, ρ', h0, _⟩ := h _ w #[.int .i64 n, .string s] hR (.cons (.int _ _) (.cons (.str _) .nil))
    rw [callFunc_enters ⟨Tryz.f3, by kernel_rfl, by kernel_rfl, by kernel_rfl⟩] at h0
    cases h0

end Go.Proofs.YtepchknpgeopfaaGreatDoor.E
