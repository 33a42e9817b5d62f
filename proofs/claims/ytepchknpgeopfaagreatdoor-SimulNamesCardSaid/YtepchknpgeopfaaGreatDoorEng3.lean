/-
  THE ENGINE, part 3: writing, new blocks, slices that grow, maps: borne by every world that bears the abstract heap.
-/
import Derived.Test.YtepchknpgeopfaaGreatDoorEng2
import Derived.Laws.CopyRow
set_option linter.unusedVariables false
set_option linter.unusedSimpArgs false
namespace Go.Proofs.YtepchknpgeopfaaGreatDoor.E
open Go

variable {alc : Option Nat}

def Emb.put (ρ : Emb) (b : Nat) (i : Info) : Emb := fun b' => if b' = b then some i else ρ b'

theorem Emb.put_same (ρ : Emb) (b : Nat) (i : Info) : ρ.put b i b = some i := by simp [Emb.put]
theorem Emb.put_other (ρ : Emb) {b b' : Nat} (i : Info) (h : b' ≠ b) : ρ.put b i b' = ρ b' := by simp [Emb.put, h]
theorem Emb.put_ext {ρ : Emb} {b : Nat} {i : Info} (h : ρ b = none) : Ext ρ (ρ.put b i) := fun b' j hj => by
  by_cases e : b' = b
  · subst e; rw [h] at hj; cases hj
  · rw [Emb.put_other _ _ e]; exact hj

/-- A block is written over: nothing but its own place in the world has changed. -/
theorem Rel.upd0 {ρ : Emb} {H : AH} {w w' : World} (hR : Rel ρ H w) {b : Nat} {x x' : Blk} {i : Info} (hx : H.at_ b = some x) (hxw : x.wr = true) (hi : ρ b = some i)
    (hsz : w'.heap.size = w.heap.size) (ho : ∀ cb, cb ≠ i.cb → w'.heap[cb]? = w.heap[cb]?) (hos : w'.os = w.os) (hout : w'.output = w.output)
    (hb : BlkR ρ w' i x') : Rel ρ (H.set b (some x')) w' ∧ Evo alc ρ H w ρ (H.set b (some x')) w' := by
  refine ⟨⟨hR.fresh, fun b' j hj => by rw [hsz]; exact hR.inh b' j hj, fun b' y hy => ?_, fun b1 b2 y z i1 i2 hy hz h1 h2 hne hw => ?_⟩, ⟨.refl _, by rw [hsz]; exact Nat.le_refl _, fun cb hl hf => ?_, fun cb hf => ?_, fun cb hf => ?_, fun _ _ _ h => h, fun c h1 h2 h3 => ?_, hos, hout, Nat.le_refl _⟩⟩
  · simp only [AH.set] at hy
    by_cases e : b' = b
    · subst e
      simp at hy
      subst hy
      exact ⟨i, hi, hb⟩
    · simp [e] at hy
      obtain ⟨j, hj, hbj⟩ := hR.blk b' y hy
      exact ⟨j, hj, hbj.same (ho _ fun e' => hR.inj b b' x y i j hx hy hi hj (Ne.symm e) hxw e'.symm)⟩
  · simp only [AH.set] at hy hz
    by_cases e1 : b1 = b
    · subst e1
      have e2 : ¬ b2 = b1 := fun h => hne h.symm
      simp [e2] at hz
      exact hR.inj b1 b2 x z i1 i2 hx hz h1 h2 hne hxw
    · simp [e1] at hy
      by_cases e2 : b2 = b
      · subst e2
        exact fun h => hR.inj b2 b1 x y i2 i1 hx hy h2 h1 (Ne.symm hne) hxw h.symm
      · simp [e2] at hz
        exact hR.inj b1 b2 y z i1 i2 hy hz h1 h2 hne hw
  · exact ho cb fun e => hf ⟨b, x, i, hx, hxw, hi, e.symm⟩
  · obtain ⟨b', y, j, hy, hyw, hj, e⟩ := hf
    simp only [AH.set] at hy
    by_cases e1 : b' = b
    · subst e1
      exact .inl ⟨b', x, j, hx, hxw, hj, e⟩
    · simp [e1] at hy
      exact .inl ⟨b', y, j, hy, hyw, hj, e⟩
  · obtain ⟨b', y, j, hy, hj, e⟩ := hf
    simp only [AH.set] at hy
    by_cases e1 : b' = b
    · subst e1
      exact .inl ⟨b', x, j, hx, hj, e⟩
    · simp [e1] at hy
      exact .inl ⟨b', y, j, hy, hj, e⟩
  · have : c ≠ b := fun e => by subst e; rw [hx] at h3; cases h3
    simpa [AH.set, this] using h3

theorem Rel.upd {ρ : Emb} {H : AH} {w w' : World} (hR : Rel ρ H w) {b : Nat} {x x' : Blk} {i : Info} (hx : H.at_ b = some x) (hxw : x.wr = true) (hi : ρ b = some i)
    (hsz : w'.heap.size = w.heap.size) (ho : ∀ cb, cb ≠ i.cb → w'.heap[cb]? = w.heap[cb]?) (hos : w'.os = w.os) (hout : w'.output = w.output)
    (_ : x'.wr = true) (hb : BlkR ρ w' i x') : Rel ρ (H.set b (some x')) w' ∧ Evo alc ρ H w ρ (H.set b (some x')) w' := hR.upd0 hx hxw hi hsz ho hos hout hb

/-- A block is given up. -/
theorem Rel.del {ρ : Emb} {H : AH} {w : World} (hR : Rel ρ H w) (b : Nat) : Rel ρ (H.set b none) w ∧ Evo alc ρ H w ρ (H.set b none) w := by
  have hs : ∀ {b' y}, (H.set b none).at_ b' = some y → H.at_ b' = some y := by
    intro b' y hy
    simp only [AH.set] at hy
    split at hy
    · cases hy
    · exact hy
  refine ⟨⟨hR.fresh, hR.inh, fun b' y hy => hR.blk b' y (hs hy), fun b1 b2 y z i1 i2 hy hz => hR.inj b1 b2 y z i1 i2 (hs hy) (hs hz)⟩, ⟨.refl _, Nat.le_refl _, fun _ _ _ => rfl, fun cb hf => ?_, fun cb hf => ?_, fun _ _ _ h => h, fun c _ _ h => ?_, rfl, rfl, Nat.le_refl _⟩⟩
  · obtain ⟨b', y, j, hy, r⟩ := hf
    exact .inl ⟨b', y, j, hs hy, r⟩
  · obtain ⟨b', y, j, hy, r⟩ := hf
    exact .inl ⟨b', y, j, hs hy, r⟩
  · simp only [AH.set]
    split
    · rfl
    · exact h

/-- The abstract heap with one block more. -/
def AH.with (H : AH) (n' : Nat) (b : Nat) (x : Blk) : AH := { next := n', at_ := fun b' => if b' = b then some x else H.at_ b' }

theorem Rel.add {ρ : Emb} {H : AH} {w w' : World} (hR : Rel ρ H w) {b n' : Nat} {x : Blk} {i : Info} (hn : H.next ≤ n') (hbn : b < n') (hq : H.next ≤ b ∨ alc = some b) (hb0 : ρ b = none) (hi : w.heap.size ≤ i.cb) (hi' : i.cb < w'.heap.size)
    (hsz : w.heap.size ≤ w'.heap.size) (ho : ∀ cb, cb < w.heap.size → w'.heap[cb]? = w.heap[cb]?) (hos : w'.os = w.os) (hout : w'.output = w.output)
    (hb : BlkR (ρ.put b i) w' i x) : Rel (ρ.put b i) (H.with n' b x) w' ∧ Evo alc ρ H w (ρ.put b i) (H.with n' b x) w' := by
  have hext : Ext ρ (ρ.put b i) := Emb.put_ext hb0
  have hH : H.at_ b = none := by
    cases h : H.at_ b with
    | none => rfl
    | some y => obtain ⟨j, hj, _⟩ := hR.blk b y h; rw [hb0] at hj; cases hj
  have old : ∀ {b' y}, (H.with n' b x).at_ b' = some y → b' ≠ b → H.at_ b' = some y := by
    intro b' y hy hne
    simpa [AH.with, hne] using hy
  refine ⟨⟨fun b' h => ?_, fun b' j hj => ?_, fun b' y hy => ?_, fun b1 b2 y z i1 i2 hy hz h1 h2 hne hw => ?_⟩, ⟨hext, hsz, fun cb hl _ => ho cb hl, fun cb hf => ?_, fun cb hf => ?_, fun c h1 h2 h3 => ?_, fun c h1 h2 h3 => ?_, hos, hout, hn⟩⟩
  · have : b' ≠ b := fun e => by subst e; simp only [AH.with] at h; omega
    rw [Emb.put_other _ _ this]
    exact hR.fresh b' (Nat.le_trans hn h)
  · by_cases e : b' = b
    · subst e; rw [Emb.put_same] at hj; cases hj; exact hi'
    · rw [Emb.put_other _ _ e] at hj; exact Nat.lt_of_lt_of_le (hR.inh b' j hj) hsz
  · by_cases e : b' = b
    · subst e
      simp [AH.with] at hy
      subst hy
      exact ⟨i, Emb.put_same _ _ _, hb⟩
    · obtain ⟨j, hj, hbj⟩ := hR.blk b' y (old hy e)
      exact ⟨j, hext _ _ hj, (hbj.same (ho _ (hR.inh _ _ hj))).mono hext⟩
  · by_cases e1 : b1 = b
    · subst e1
      rw [Emb.put_same] at h1; cases h1
      rw [Emb.put_other _ _ (Ne.symm hne)] at h2
      have := hR.inh b2 i2 h2
      omega
    · rw [Emb.put_other _ _ e1] at h1
      by_cases e2 : b2 = b
      · subst e2
        rw [Emb.put_same] at h2; cases h2
        have := hR.inh b1 i1 h1
        omega
      · rw [Emb.put_other _ _ e2] at h2
        exact hR.inj b1 b2 y z i1 i2 (old hy e1) (old hz e2) h1 h2 hne hw
  · obtain ⟨b', y, j, hy, hyw, hj, e⟩ := hf
    by_cases e1 : b' = b
    · subst e1
      rw [Emb.put_same] at hj; cases hj
      exact .inr (e ▸ hi)
    · rw [Emb.put_other _ _ e1] at hj
      exact .inl ⟨b', y, j, old hy e1, hyw, hj, e⟩
  · obtain ⟨b', y, j, hy, hj, e⟩ := hf
    by_cases e1 : b' = b
    · subst e1
      rw [Emb.put_same] at hj; cases hj
      exact .inr (e ▸ hi)
    · rw [Emb.put_other _ _ e1] at hj
      exact .inl ⟨b', y, j, old hy e1, hj, e⟩
  · have hcb : c ≠ b := fun e => by
      subst e
      rcases hq with q | q
      · omega
      · exact h2 q
    rw [Emb.put_other _ _ hcb]; exact h3
  · have hcb : c ≠ b := fun e => by
      subst e
      rcases hq with q | q
      · omega
      · exact h2 q
    simpa [AH.with, hcb] using h3

theorem newAt_eq {alc : Option Nat} {x : Blk} {H H' : AH} {b : Nat} (h : newAt alc x H = some (b, H')) :
    (alc = none ∧ b = H.next ∧ H' = H.with (H.next + 1) b x) ∨ (alc = some b ∧ b < H.next ∧ H.at_ b = none ∧ H' = H.with H.next b x) := by
  unfold newAt at h
  split at h
  · cases h; exact .inl ⟨rfl, rfl, rfl⟩
  · split at h
    · rename_i hb
      split at h
      · rename_i hl; cases h; exact .inr ⟨rfl, hl, hb, rfl⟩
      · cases h
    · cases h

/-- The number that was laid by stands for nothing yet. -/
def Free (ρ : Emb) (alc : Option Nat) : Prop := ∀ b, alc = some b → ρ b = none

/-- A new block, made by 'newObj' in the world. -/
theorem newAt_sim {ρ : Emb} {H H' : AH} {w w' : World} (hR : Rel ρ H w) {alc : Option Nat} {x : Blk} {b : Nat} {o : Obj} {n m : Nat} (hf : Free ρ alc) (h : newAt alc x H = some (b, H'))
    (hw : w' = { w with heap := w.heap.push o }) (hb : BlkR (ρ.put b ⟨w.heap.size, 0, n, m⟩) { w with heap := w.heap.push o } ⟨w.heap.size, 0, n, m⟩ x) :
    ρ b = none ∧ Rel (ρ.put b ⟨w.heap.size, 0, n, m⟩) H' w' ∧ Evo alc ρ H w (ρ.put b ⟨w.heap.size, 0, n, m⟩) H' w' := by
  subst hw
  have hb0 : ρ b = none := by
    rcases newAt_eq h with ⟨_, rfl, _⟩ | ⟨ha, _, _, _⟩
    · exact hR.fresh _ (Nat.le_refl _)
    · exact hf b ha
  have key : ∀ n', H.next ≤ n' → b < n' → (H.next ≤ b ∨ alc = some b) → Rel (ρ.put b ⟨w.heap.size, 0, n, m⟩) (H.with n' b x) { w with heap := w.heap.push o } ∧ Evo alc ρ H w (ρ.put b ⟨w.heap.size, 0, n, m⟩) (H.with n' b x) { w with heap := w.heap.push o } :=
    fun n' h1 h2 h3 => hR.add h1 h2 h3 hb0 (Nat.le_refl _) (by simp) (by simp) (fun cb hl => by simp [Array.getElem?_push, Nat.ne_of_lt hl]) rfl rfl hb
  refine ⟨hb0, ?_⟩
  rcases newAt_eq h with ⟨_, rfl, rfl⟩ | ⟨ha, hl, _, rfl⟩
  · exact key _ (by omega) (by omega) (.inl (Nat.le_refl _))
  · exact key _ (Nat.le_refl _) hl (.inr ha)

/-- A new row of cells. -/
theorem newRow_sim {ρ : Emb} {H H' : AH} {w : World} (hR : Rel ρ H w) {alc : Option Nat} {e : TypeId} {cs : List Value} {cc : Array Value} {b : Nat} (hf : Free ρ alc) (h : newRow alc e cs H = some (b, H'))
    (tail : List Value) (hcs : LRel ρ cs (cc.toList.take cs.length)) (hm : cs.length ≤ cc.size) (hsp : special e = true → cs.length = cc.size) :
    ∃ ρ', Ext ρ ρ' ∧ ρ' b = some ⟨w.heap.size, 0, cs.length, cc.size⟩ ∧ Rel ρ' H' { w with heap := w.heap.push (.cells cc e (0, 0)) } ∧ Evo alc ρ H w ρ' H' { w with heap := w.heap.push (.cells cc e (0, 0)) } := by
  unfold newRow at h
  split at h
  · rename_i hok
    have hb0 : ρ b = none := by
      rcases newAt_eq h with ⟨_, rfl, _⟩ | ⟨ha, _, _, _⟩
      · exact hR.fresh _ (Nat.le_refl _)
      · exact hf b ha
    obtain ⟨_, h1, h2⟩ := newAt_sim (n := cs.length) (m := cc.size) hR hf h rfl (o := .cells cc e (0, 0)) ⟨⟨rfl, fun h => ⟨rfl, (hsp h).symm⟩⟩, cc, (0, 0), by simp, rfl, by simpa using hm, fun _ => rfl, fun o v hv => by
      obtain ⟨v', h3, h4⟩ := hcs.get hv
      have ho : o < cs.length := (List.getElem?_eq_some_iff.1 hv).1
      rw [List.getElem?_take, if_pos ho, Array.getElem?_toList] at h3
      exact ⟨v', by simpa using h3, h4.mono (Emb.put_ext hb0)⟩⟩
    exact ⟨_, Emb.put_ext hb0, Emb.put_same _ _ _, h1, h2⟩
  · cases h

/-! ### Writing -/

theorem writeN_sim {ρ : Emb} {H H' : AH} {w : World} (hR : Rel ρ H w) {b o : Nat} {vs vc : List Value} {i : Info} (hi : ρ b = some i) (hv : LRel ρ vs vc) (h : writeN b o vs H = some H') :
    ∃ w', (∀ P, (storeCells ⟨i.cb, o + i.d, none⟩ vc).run P w = .ok () w') ∧ Rel ρ H' w' ∧ Evo alc ρ H w ρ H' w' := by
  unfold writeN at h
  split at h
  · rename_i e cs hx
    split at h
    · rename_i hc
      cases h
      obtain ⟨hle, hok⟩ := hc
      obtain ⟨j, hj, hb⟩ := hR.blk b _ hx
      rw [hi] at hj; cases hj
      obtain ⟨hn, cc, fz, h1, h2, h3, h4, h5⟩ := hb
      rw [h4 rfl] at h1
      have hl := hv.length
      have hlt : i.cb < w.heap.size := (Array.getElem?_eq_some_iff.1 h1).1
      refine ⟨w.setRow i.cb (cc.toList.take (o + i.d) ++ vc ++ cc.toList.drop (o + i.d + vc.length)).toArray, fun P => ?_, ?_⟩
      · exact run_storeCells_at P i.cb (o + i.d) e vc 0 cc w h1 (by omega) (all_oneCell hv hok)
      · refine hR.upd hx rfl hi (by simp) (fun cb hne => setRow_other w _ _ _ hne) rfl rfl rfl ⟨⟨?_, fun hs => ?_⟩, _, (0, 0), setRow_heap w _ _ _ _ _ h1, ?_, ?_, fun _ => rfl, fun k v hk => ?_⟩
        · rw [hn.1]; simp [splice]; omega
        · refine ⟨(hn.2 hs).1, ?_⟩; rw [(hn.2 hs).2]; simp [splice]; omega
        · rw [← h2]; simp; omega
        · simp [splice]; omega
        · simp only [splice, List.getElem?_append, List.length_take, List.length_append] at hk
          have e1 : min o cs.length = o := by omega
          rw [e1] at hk
          simp only [List.getElem?_toArray, List.getElem?_append, List.length_take, List.length_append, Array.length_toList]
          have e2 : min (o + i.d) cc.size = o + i.d := by omega
          rw [e2]
          by_cases c1 : k < o
          · have c1' : k < o + vs.length := by omega
            have c2 : k + i.d < o + i.d := by omega
            have c2' : k + i.d < o + i.d + vc.length := by omega
            simp only [c1, c1', if_true, List.getElem?_take] at hk
            simp only [c2, c2', if_true, List.getElem?_take, Array.getElem?_toList]
            exact h5 k v hk
          · by_cases c3 : k < o + vs.length
            · have c4 : ¬ k + i.d < o + i.d := by omega
              have c5 : k + i.d < o + i.d + vc.length := by omega
              simp only [c1, c3, if_true, if_false] at hk
              simp only [c4, c5, if_true, if_false]
              obtain ⟨v', g1, g2⟩ := hv.get hk
              exact ⟨v', by rw [show k + i.d - (o + i.d) = k - o by omega]; exact g1, g2⟩
            · have c5 : ¬ k + i.d < o + i.d + vc.length := by omega
              simp only [c3, if_false, List.getElem?_drop] at hk
              simp only [c5, if_false, List.getElem?_drop, Array.getElem?_toList]
              rw [show o + vs.length + (k - (o + vs.length)) = k by omega] at hk
              rw [show o + i.d + vc.length + (k + i.d - (o + i.d + vc.length)) = k + i.d by omega]
              exact h5 k v hk
    · cases h
  · cases h

theorem store_sim {ρ : Emb} {H H' : AH} {w : World} (hR : Rel ρ H w) {P : Program} {t : TypeId} {i : TypeInfo} (ht : P.info? t = some i) {a ac v vc u : Value} (ha : VRel ρ a ac) (hv : VRel ρ v vc)
    (h : store (P.cellsOf t) a v H = some (u, H')) : u = undef ∧ ∃ w', (Instr.storeAt t ac vc).run P w = .ok () w' ∧ Rel ρ H' w' ∧ Evo alc ρ H w ρ H' w' := by
  unfold store at h
  split at h
  · rename_i b o
    split at h
    · rename_i hl
      split at h
      · rename_i H1 hw
        cases h
        cases ha with
        | ptr hi =>
          have hok : v.cells.toList.all cellOk = true := by
            unfold writeN at hw
            split at hw
            · split at hw
              · rename_i hc; exact hc.2
              · cases hw
            · cases hw
          obtain ⟨hcr, _⟩ := cells_rel hv hok
          obtain ⟨w', h1, h2, h3⟩ := writeN_sim hR hi hcr hw
          refine ⟨rfl, w', ?_, h2, h3⟩
          have hsz : vc.cells.size = P.cellsOf t := by
            have := hcr.length
            simp only [Array.length_toList] at this hl
            omega
          simp [Instr.storeAt, Instr.sureAddr, storeVar, run_sizeOf' w ht, hsz, h1]
      · cases h
    · cases h
  · cases h

/-! ### Reading through a type -/

theorem load_sim {ρ : Emb} {H H' : AH} {w : World} (hR : Rel ρ H w) {P : Program} {t : TypeId} {a ac v : Value} (ha : VRel ρ a ac) (h : load P t a H = some (v, H')) :
    H' = H ∧ ∃ vc, (Instr.loadAt t ac).run P w = .ok vc w ∧ VRel ρ v vc := by
  unfold load at h
  split at h
  · rename_i hagg
    obtain ⟨e, cb, co, vc, rfl, h1, h2⟩ := loadN_sim hR ha h
    refine ⟨e, _, ?_, h2⟩
    unfold isAggT isAggB at hagg
    split at hagg
    · rename_i fs hu
      obtain ⟨i, hi⟩ := info_of_underlying hu
      simp [Instr.loadAt, Instr.sureAddr, loadVar, isAgg, run_underlying' w hu, run_sizeOf' w hi, h1]
    · rename_i n el hu
      obtain ⟨i, hi⟩ := info_of_underlying hu
      simp [Instr.loadAt, Instr.sureAddr, loadVar, isAgg, run_underlying' w hu, run_sizeOf' w hi, h1]
    · cases hagg
  · rename_i hagg
    split at h
    · rename_i hu
      obtain ⟨e, cb, co, vc, rfl, h1, h2⟩ := load1_sim hR ha h
      refine ⟨e, vc, ?_, h2⟩
      obtain ⟨d, hd⟩ := Option.isSome_iff_exists.1 hu
      have : (isAgg t).run P w = .ok false w := by
        unfold isAggT isAggB at hagg
        simp only [isAgg, Sem.run_bind, run_underlying' w hd, Result.andThen_ok]
        cases d <;> simp [hd] at hagg ⊢
      simp [Instr.loadAt, Instr.sureAddr, loadVar, this, h1]
    · cases h

end Go.Proofs.YtepchknpgeopfaaGreatDoor.E
