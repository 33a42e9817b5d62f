/-
  THE ENGINE, part 9: append, copy, clear; maps.
-/
import Derived.Test.YtepchknpgeopfaaGreatDoorEng8
set_option linter.unusedVariables false
set_option linter.unusedSimpArgs false
namespace Go.Proofs.YtepchknpgeopfaaGreatDoor.E
open Go

variable {P : Program} {ρ : Emb} {H H' : AH} {w : World} {alc : Option Nat}

/-- A block is given up, and another one stands in its place in the world. -/
theorem Rel.take {w' : World} (hR : Rel ρ H w) {b b' n' : Nat} {x x' : Blk} {i j : Info} (hx : H.at_ b = some x) (hxw : x.wr = true) (hi : ρ b = some i) (hn : H.next ≤ n') (hbn : b' < n') (hq : H.next ≤ b' ∨ alc = some b') (hb0 : ρ b' = none)
    (hj : j.cb = i.cb) (hsz : w'.heap.size = w.heap.size) (ho : ∀ cb, cb ≠ i.cb → w'.heap[cb]? = w.heap[cb]?) (hos : w'.os = w.os) (hout : w'.output = w.output)
    (hb : BlkR (ρ.put b' j) w' j x') : Rel (ρ.put b' j) ((H.with n' b' x').set b none) w' ∧ Evo alc ρ H w (ρ.put b' j) ((H.with n' b' x').set b none) w' := by
  have hext : Ext ρ (ρ.put b' j) := Emb.put_ext hb0
  have hne : b' ≠ b := fun e => by subst e; rw [hi] at hb0; cases hb0
  have old : ∀ {c y}, ((H.with n' b' x').set b none).at_ c = some y → c ≠ b' → H.at_ c = some y ∧ c ≠ b := by
    intro c y hy hc
    by_cases e : c = b
    · subst e; simp [AH.set] at hy
    · simp only [AH.set, e, if_false, AH.with, hc] at hy
      exact ⟨hy, e⟩
  have apart : ∀ {c y k}, H.at_ c = some y → c ≠ b → ρ c = some k → k.cb ≠ i.cb := fun hy hc hk => Ne.symm (hR.inj b _ x _ i _ hx hy hi hk (Ne.symm hc) hxw)
  refine ⟨⟨fun c h => ?_, fun c k hk => ?_, fun c y hy => ?_, fun c1 c2 y z i1 i2 hy hz h1 h2 hc hw => ?_⟩, ⟨hext, by rw [hsz]; exact Nat.le_refl _, fun cb hl hf => ?_, fun cb hf => ?_, fun cb hf => ?_, fun c h1 h2 h3 => ?_, fun c h1 h2 h3 => ?_, hos, hout, hn⟩⟩
  · have : c ≠ b' := fun e => by subst e; simp only [AH.set, AH.with] at h; omega
    rw [Emb.put_other _ _ this]
    exact hR.fresh c (Nat.le_trans hn h)
  · rw [hsz]
    by_cases e : c = b'
    · subst e; rw [Emb.put_same] at hk; cases hk; rw [hj]; exact hR.inh b i hi
    · rw [Emb.put_other _ _ e] at hk; exact hR.inh c k hk
  · by_cases e : c = b'
    · subst e
      simp [AH.set, AH.with, hne] at hy
      subst hy
      exact ⟨j, Emb.put_same _ _ _, hb⟩
    · obtain ⟨hy', hcb⟩ := old hy e
      obtain ⟨k, hk, hbk⟩ := hR.blk c y hy'
      exact ⟨k, hext _ _ hk, (hbk.same (ho _ (apart hy' hcb hk))).mono hext⟩
  · by_cases e1 : c1 = b'
    · subst e1
      rw [Emb.put_same] at h1; cases h1
      have e2 : c2 ≠ c1 := Ne.symm hc
      rw [Emb.put_other _ _ e2] at h2
      obtain ⟨hz', hzb⟩ := old hz e2
      rw [hj]
      exact Ne.symm (apart hz' hzb h2)
    · rw [Emb.put_other _ _ e1] at h1
      obtain ⟨hy', hyb⟩ := old hy e1
      by_cases e2 : c2 = b'
      · subst e2
        rw [Emb.put_same] at h2; cases h2
        rw [hj]
        exact apart hy' hyb h1
      · rw [Emb.put_other _ _ e2] at h2
        exact hR.inj c1 c2 y z i1 i2 hy' (old hz e2).1 h1 h2 hc hw
  · exact ho cb fun e => hf ⟨b, x, i, hx, hxw, hi, e.symm⟩
  · obtain ⟨c, y, k, hy, hyw, hk, e⟩ := hf
    by_cases e1 : c = b'
    · subst e1
      rw [Emb.put_same] at hk; cases hk
      exact .inl ⟨b, x, i, hx, hxw, hi, by rw [← e, hj]⟩
    · rw [Emb.put_other _ _ e1] at hk
      exact .inl ⟨c, y, k, (old hy e1).1, hyw, hk, e⟩
  · obtain ⟨c, y, k, hy, hk, e⟩ := hf
    by_cases e1 : c = b'
    · subst e1
      rw [Emb.put_same] at hk; cases hk
      exact .inl ⟨b, x, i, hx, hi, by rw [← e, hj]⟩
    · rw [Emb.put_other _ _ e1] at hk
      exact .inl ⟨c, y, k, (old hy e1).1, hk, e⟩
  · have hcb : c ≠ b' := fun e => by
      subst e
      rcases hq with q | q
      · omega
      · exact h2 q
    rw [Emb.put_other _ _ hcb]; exact h3
  · have hcb : c ≠ b' := fun e => by
      subst e
      rcases hq with q | q
      · omega
      · exact h2 q
    simp only [AH.set, AH.with, hcb, if_false]
    split
    · rfl
    · exact h3

theorem sim_sliceCells {s n : Nat} {x xc : Value} {vs : List Value} (hR : Rel ρ H w) (hx : VRel ρ x xc) (h : sliceCells s n x H = some (vs, H')) :
    H' = H ∧ ∃ vc, LRel ρ vs vc ∧ vs.length = n * s ∧ (Builtin.firstCells s n xc).run P w = .ok vc.toArray w := by
  unfold sliceCells at h
  split at h
  · rename_i b o m len cap
    split at h
    · rename_i hn
      have key : ∀ (i : Info) (co cap' : Nat), ρ b = some i → len ≤ cap' → (co = o + i.d ∨ cap' = 0) → xc = .slice (some ⟨i.cb, co, none⟩) len cap' →
          H' = H ∧ ∃ vc, LRel ρ vs vc ∧ vs.length = n * s ∧ (Builtin.firstCells s n xc).run P w = .ok vc.toArray w := by
        intro i co cap' hb hl ha e
        subst e
        split at h
        · rename_i h0
          cases h
          subst h0
          exact ⟨rfl, [], .nil, by simp, by simp [Builtin.firstCells, loadCells, loadCellsFrom]⟩
        · cases hr : readN H b o (n * s) with
          | none => simp [hr] at h
          | some us =>
            simp only [hr, Option.map_some, Option.some.injEq, Prod.mk.injEq] at h
            obtain ⟨rfl, rfl⟩ := h
            have hco : co = o + i.d := ha.resolve_right (by omega)
            subst hco
            obtain ⟨hl1, vc, h1, h2⟩ := readN_sim hR hb hr
            refine ⟨rfl, vc, h1, hl1, ?_⟩
            have := run_loadCells_list (P := P) w _ vc h2
            rw [← h1.length, hl1] at this
            simpa [Builtin.firstCells] using this
      cases hx with
      | sl hb hl ha => exact key _ _ _ hb hl ha rfl
      | slo hb hl hc _ _ ha => exact key _ _ _ hb (by omega) ha rfl
    · cases h
  · split at h
    · rename_i h0
      cases h
      subst h0
      cases hx
      exact ⟨rfl, [], .nil, by simp, by simp [Builtin.firstCells]⟩
    · cases h
  · rename_i t
    split at h
    · rename_i hn
      obtain ⟨hs1, hn⟩ := hn
      cases h
      cases hx
      refine ⟨rfl, (t.data.toList.take n).map fun c => Value.int .u8 c.toNat, ?_, ?_⟩
      · refine All2.of_get rfl fun i a b ha hb => ?_
        rw [ha] at hb; cases hb
        simp only [List.getElem?_map, Option.map_eq_some_iff] at ha
        obtain ⟨c, _, rfl⟩ := ha
        exact .int _ _
      · subst hs1
        refine ⟨by simp; omega, ?_⟩
        simp only [Builtin.firstCells, Sem.run_pure]
        congr 1
        apply Array.ext'
        simp [ByteArray.data_extract, List.extract]
    · cases h
  · cases h

theorem lenN_rel {x xc : Value} {n : Nat} (hx : VRel ρ x xc) (h : lenN x = some n) : (Builtin.lenOf xc).run P w = .ok n w := by
  unfold lenN at h
  split at h
  · cases h
    cases hx <;> rfl
  · cases h; cases hx; rfl
  · cases h

theorem growBy_le (L : Nat) : ∀ (r c : Nat), c ≤ L + (L + 768) / 4 → Builtin.growBy L r c ≤ L + (L + 768) / 4
  | 0, c, h => h
  | r + 1, c, h => by
    simp only [Builtin.growBy]
    split
    · exact h
    · exact growBy_le L r _ (by omega)

theorem nextslicecap_le {need old : Nat} (h : old < need) : Builtin.nextslicecap need old ≤ 2 * need + 512 := by
  unfold Builtin.nextslicecap
  split
  · omega
  · split
    · omega
    · have := growBy_le need 4 old (by omega)
      omega

theorem newRow_with {alc : Option Nat} {e : TypeId} {cs : List Value} {b : Nat} (h : newRow alc e cs H = some (b, H')) :
    ∃ n', H' = H.with n' b (.row e cs true) ∧ H.next ≤ n' ∧ b < n' := by
  unfold newRow at h
  split at h
  · rcases newAt_eq h with ⟨_, rfl, rfl⟩ | ⟨_, hl, _, rfl⟩
    · exact ⟨_, rfl, by omega, by omega⟩
    · exact ⟨_, rfl, Nat.le_refl _, hl⟩
  · cases h

/-- What the operands of append tell the model. -/
structure AppT (P : Program) (t t' e : TypeId) : Prop where
  hu : P.underlying t = some (.slice e)
  hu' : ∃ d, P.underlying t' = some d ∧ (∀ k, d ≠ .int k)

theorem run_append_in {t t' e ty : TypeId} {ts : Array TypeId} (h0 : ts[0]? = some t) (h1 : ts[1]? = some t') (hT : AppT P t t' e) {i : TypeInfo} (hi : P.info? e = some i) {base : Option Addr} {len cap n : Nat} {x : Value} {new : List Value} {w' : World}
    (hn : (Builtin.lenOf x).run P w = .ok n w) (hle : len + n ≤ cap) (hc : (Builtin.firstCells (P.cellsOf e) n x).run P w = .ok new.toArray w)
    (hst : ∀ a, base = some a → (storeCells (a.add (len * P.cellsOf e)) new).run P w = .ok () w') (hb : base = none → w' = w) :
    (Builtin.append_ ts ty #[.slice base len cap, x]).run P w = .ok (.slice base (len + n) cap) w' := by
  obtain ⟨d, hd, hnd⟩ := hT.hu'
  have hz' : (d matches .int _) = false := by cases d <;> first | rfl | exact absurd rfl (hnd _)
  cases base with
  | none => simp [Builtin.append_, h0, h1, run_underlying' w hT.hu, run_sizeOf' w hi, run_underlying' w hd, hz', hn, hle, hc, hb rfl]
  | some a => simp [Builtin.append_, h0, h1, run_underlying' w hT.hu, run_sizeOf' w hi, run_underlying' w hd, hz', hn, hle, hc, hst a rfl]

theorem run_append_new {t t' e ty : TypeId} {ts : Array TypeId} (h0 : ts[0]? = some t) (h1 : ts[1]? = some t') (hT : AppT P t t' e) {i : TypeInfo} {zv : Value} (hi : P.info? e = some i) (hz : i.zero = some zv) {base : Option Addr} {len cap n : Nat} {x : Value} {old new : List Value}
    (hn : (Builtin.lenOf x).run P w = .ok n w) (hgt : cap < len + n) (hroom : roomOk (P.bytesOf e) (len + n) = true)
    (hc : ∀ w' : World, w'.heap = w.heap → (Builtin.firstCells (P.cellsOf e) n x).run P w' = .ok new.toArray w')
    (ho : ∀ w' : World, w'.heap = w.heap → (Builtin.firstCells (P.cellsOf e) len (.slice base len cap)).run P w' = .ok old.toArray w') :
    ∃ k, (Builtin.append_ ts ty #[.slice base len cap, x]).run P w =
      .ok (.slice (some ⟨w.heap.size, 0, none⟩) (len + n) (len + n + k)) { w with drawn := w.drawn + 1, heap := w.heap.push (.cells (old.toArray ++ new.toArray ++ Builtin.zeroCells zv.cells k) e (0, 0)) } := by
  obtain ⟨d, hd, hnd⟩ := hT.hu'
  obtain ⟨r1, r2, r3⟩ := room_small hroom
  have hcut : (Question.appendCap (len + n) cap e).cut (w.tape w.drawn (Question.appendCap (len + n) cap e)) = len + n + w.tape w.drawn (Question.appendCap (len + n) cap e) % (2 ^ 63 - (len + n)) := rfl
  have hfor : (Question.appendCap (len + n) cap e).forced = false := rfl
  refine ⟨w.tape w.drawn (Question.appendCap (len + n) cap e) % (2 ^ 63 - (len + n)), ?_⟩
  rw [← hcut]
  have hcut2 : (Question.appendCap (len + n) cap e).cut (w.tape w.drawn (Question.appendCap (len + n) cap e)) - (len + n) = w.tape w.drawn (Question.appendCap (len + n) cap e) % (2 ^ 63 - (len + n)) := by rw [hcut]; omega
  rw [← hcut2]
  have hby : P.bytesOf e = i.bytes := by simp [Program.bytesOf, hi]
  rw [hby] at r1 r3
  have hnsc := nextslicecap_le hgt
  have hsz : ¬ 281474976710656 < Builtin.nextslicecap (len + n) cap * i.bytes := by
    have h1 : Builtin.nextslicecap (len + n) cap * i.bytes ≤ (2 * (len + n) + 512) * i.bytes := Nat.mul_le_mul_right _ hnsc
    rw [Nat.add_mul, Nat.mul_assoc] at h1
    have h2 : 512 * i.bytes ≤ 512 * 2 ^ 30 := Nat.mul_le_mul_left _ r3
    omega
  have hmax : ¬ (9223372036854775807 < (len : Int) + n ∧ i.bytes = 0) := by omega
  have hcd : (Builtin.firstCells (P.cellsOf e) n x).run P w.drew = .ok new.toArray w.drew := hc _ rfl
  have hod : (Builtin.firstCells (P.cellsOf e) len (.slice base len cap)).run P w.drew = .ok old.toArray w.drew := ho _ rfl
  have hz' : (d matches .int _) = false := by cases d <;> first | rfl | exact absurd rfl (hnd _)
  have hnle : ¬ len + n ≤ cap := by omega
  simp [Builtin.append_, h0, h1, run_underlying' w hT.hu, run_sizeOf' w hi, run_underlying' w hd, hz', hn, hnle, run_typeInfo' _ hi, hmax, hsz, hfor, hcd, hod, run_zeroValue' _ hi hz, Go.newRow, IntKind.max, IntKind.signed, IntKind.bits]
  simp only [World.alloc, World.drew]
  congr 3
  apply Array.ext'
  simp

theorem cell_of_heap {w w' : World} (h : w'.heap = w.heap) (a : Addr) : w'.cell? a = w.cell? a := by simp [World.cell?, h]

theorem farLoad_of_heap {w w' : World} (h : w'.heap = w.heap) (a : Addr) (m : Bool) : (∃ e e', w.farLoad P a m = .error e ∧ w'.farLoad P a m = .error e') ∨ w'.farLoad P a m = w.farLoad P a m := by
  right
  unfold World.farLoad World.viewLoad World.seen World.noCell
  rw [h]

theorem run_loadCellsFrom_heap {w w' : World} (h : w'.heap = w.heap) (a : Addr) : ∀ (n i : Nat) (acc cs : Array Value), (loadCellsFrom a i n acc).run P w = .ok cs w → (loadCellsFrom a i n acc).run P w' = .ok cs w'
  | 0, i, acc, cs, hr => by simp [loadCellsFrom] at hr ⊢; exact hr
  | n + 1, i, acc, cs, hr => by
    simp only [loadCellsFrom, Sem.run_bind, run_load] at hr ⊢
    rw [cell_of_heap h]
    cases hc : w.cell? (a.add i) with
    | some v =>
      simp only [hc, Result.andThen_ok] at hr ⊢
      exact run_loadCellsFrom_heap h a n (i + 1) _ cs hr
    | none =>
      simp only [hc] at hr ⊢
      rcases farLoad_of_heap (P := P) h (a.add i) (Mode.plain == Mode.atomic) with ⟨e, e', h1, h2⟩ | h1
      · rw [h1] at hr; simp at hr
      · rw [h1]
        cases hl : w.farLoad P (a.add i) (Mode.plain == Mode.atomic) with
        | ok r => simp only [hl, Result.andThen_ok] at hr ⊢; exact run_loadCellsFrom_heap h a n (i + 1) _ cs hr
        | error e => simp only [hl] at hr; simp at hr

theorem run_firstCells_heap {w w' : World} (s n : Nat) (x : Value) (h : w'.heap = w.heap) : ∀ cs, (Builtin.firstCells s n x).run P w = .ok cs w → (Builtin.firstCells s n x).run P w' = .ok cs w' := by
  intro cs hr
  unfold Builtin.firstCells at hr ⊢
  split at hr
  · exact run_loadCellsFrom_heap h _ _ _ _ _ hr
  · simp at hr ⊢; exact hr
  · simp at hr ⊢; exact hr
  · simp at hr

theorem loadCellsFrom_cell {g co : Nat} {cc : Array Value} {e : TypeId} {fz : Nat × Nat} (hg : w.heap[g]? = some (.cells cc e fz)) : ∀ (n i : Nat) (acc cs : Array Value), (loadCellsFrom ⟨g, co, none⟩ i n acc).run P w = .ok cs w →
    (∀ (j : Nat), j < n → cc[co + (i + j)]? = cs[acc.size + j]?) ∧ cs.size = acc.size + n ∧ ∀ (j : Nat), j < acc.size → cs[j]? = acc[j]?
  | 0, i, acc, cs, h => by
    simp [loadCellsFrom] at h
    subst h
    exact ⟨fun j hj => by omega, by simp, fun j _ => rfl⟩
  | n + 1, i, acc, cs, h => by
    simp only [loadCellsFrom, Sem.run_bind, run_load, add_none] at h
    have hcell : w.cell? ⟨g, co + i, none⟩ = cc[co + i]? := by simp [World.cell?, hg]
    rw [hcell] at h
    cases hv : cc[co + i]? with
    | none =>
      have : w.farLoad P ⟨g, co + i, none⟩ (Mode.plain == Mode.atomic) = .error (w.noCell ⟨g, co + i, none⟩ "load: no such cell") := by simp [World.farLoad, hg]
      simp only [hv, this] at h
      simp at h
    | some v =>
      simp only [hv, Result.andThen_ok] at h
      obtain ⟨h1, h2, h3⟩ := loadCellsFrom_cell hg n (i + 1) (acc.push v) cs h
      refine ⟨fun j hj => ?_, by simp at h2; omega, fun j hj => ?_⟩
      · cases j with
        | zero =>
          have := h3 acc.size (by simp)
          simp at this
          simp [hv, this]
        | succ j =>
          have := h1 j (by omega)
          simp only [Array.size_push] at this
          rw [show co + (i + (j + 1)) = co + (i + 1 + j) by omega, show acc.size + (j + 1) = acc.size + 1 + j by omega]
          exact this
      · rw [h3 j (by simp; omega)]
        simp [Array.getElem?_push, Nat.ne_of_lt hj]

theorem firstCells_cell {g co s n len cap : Nat} {cc : Array Value} {e : TypeId} {fz : Nat × Nat} (hg : w.heap[g]? = some (.cells cc e fz)) {oldc : List Value} (h : (Builtin.firstCells s n (.slice (some ⟨g, co, none⟩) len cap)).run P w = .ok oldc.toArray w)
    {j : Nat} {u : Value} (hu : oldc[j]? = some u) : cc[co + j]? = some u := by
  unfold Builtin.firstCells loadCells at h
  obtain ⟨h1, h2, _⟩ := loadCellsFrom_cell hg _ _ _ _ h
  have hlt : j < oldc.length := (List.getElem?_eq_some_iff.1 hu).1
  have := h1 j (by simp at h2; omega)
  simpa [hu] using this

theorem zeroCells_size (z : Array Value) (n : Nat) : (Builtin.zeroCells z n).size = n * z.size := by simp [Builtin.zeroCells]

theorem sim_append {alc : Option Nat} {t t' e ty : TypeId} {ts : Array TypeId} {z : List Value} {x xc y yc v : Value} (hR : Rel ρ H w) (hf : Free ρ alc) (h0 : ts[0]? = some t) (h1 : ts[1]? = some t') (hT : AppT P t t' e)
    (hz : zeroL P e = some z) (hzl : z.length = P.cellsOf e) (hsp : special e = false) (hx : VRel ρ x xc) (hy : VRel ρ y yc)
    (h : append alc e (P.cellsOf e) (P.bytesOf e) x y H = some (v, H')) : Makes alc P (Builtin.append_ ts ty #[xc, yc]) ρ H w v H' := by
  obtain ⟨i, zv, hi, hzv, ez⟩ := (zero_rel hz).2
  subst ez
  have hzs : zv.cells.size = P.cellsOf e := by simpa using hzl
  unfold append at h
  cases hn : lenN y with
  | none => simp [hn, M.fail] at h
  | some n =>
    simp only [hn] at h
    have hnc : ∀ w : World, (Builtin.lenOf yc).run P w = .ok n w := fun w => lenN_rel hy hn
    have hb0 := bind_some h
    clear h
    obtain ⟨new, H1, hs, h⟩ := hb0
    obtain ⟨e0, newc, hnew, hnl, hnrun⟩ := sim_sliceCells (P := P) hR hy hs
    have e1 := e0.symm
    clear e0
    subst e1
    have hnrun' : ∀ w' : World, w'.heap = w.heap → (Builtin.firstCells (P.cellsOf e) n yc).run P w' = .ok newc.toArray w' := fun w' hw => by
      exact run_firstCells_heap (P := P) (P.cellsOf e) n yc hw _ hnrun
    split at h
    · -- nil
      cases hx
      split at h
      · rename_i hn0
        obtain ⟨rfl, rfl⟩ := pure_some h
        subst hn0
        have hnil : newc = [] := List.eq_nil_of_length_eq_zero (by rw [← hnew.length, hnl]; simp)
        subst hnil
        exact ⟨w, _, ρ, run_append_in h0 h1 hT hi (n := 0) (new := []) (hnc w) (by omega) hnrun (fun a ha => by cases ha) (fun _ => rfl), hR, .refl _ _ _, .sl0⟩
      · rename_i hn0
        split at h
        · rename_i hroom
          obtain ⟨b, H2, h2, h3⟩ := bind_some h
          obtain ⟨rfl, rfl⟩ := pure_some h3
          obtain ⟨k, hk⟩ := run_append_new (ty := ty) (base := none) (len := 0) (cap := 0) (old := []) h0 h1 hT hi hzv (hnc w) (by omega) (by simpa using hroom) hnrun' (fun w' _ => by simp [Builtin.firstCells])
          obtain ⟨ρ', he, hb, hR', hE⟩ := newRow_sim (cc := ([] : List Value).toArray ++ newc.toArray ++ Builtin.zeroCells zv.cells k) hR.drew hf h2 [] (by
            simp only [Array.toList_append, List.nil_append, List.take_left' (show newc.length = new.length from hnew.length.symm)]; exact hnew) (by
            have := hnew.length; simp; omega) (fun hs => by rw [hsp] at hs; cases hs)
          refine ⟨_, _, ρ', hk, hR', hE.of_drew, ?_⟩
          simp only [Nat.zero_add]
          refine .slo hb (Nat.le_refl _) (by omega) (by simp; omega) (.inl ?_) (.inl rfl)
          have := hnew.length
          simp [zeroCells_size, hzs, Nat.add_mul]
          omega
        · cases h
    · -- a slice
      rename_i b o m len cap
      have hxc : ∃ (i' : Info) (co cap' : Nat), ρ b = some i' ∧ len ≤ cap ∧ cap ≤ cap' ∧ (co = o + i'.d ∨ cap' = 0) ∧ xc = .slice (some ⟨i'.cb, co, none⟩) len cap' ∧
          (m = none → cap' = cap) ∧ (∀ s, m = some s → o + cap * s = i'.n ∧ (co + cap' * s ≤ i'.m ∨ cap' = 0)) := by
        cases hx with
        | sl hb hl ha => exact ⟨_, _, _, hb, hl, Nat.le_refl _, ha, rfl, (fun _ => rfl), (fun s hs => by cases hs)⟩
        | slo hb hl hc hn hm ha => exact ⟨_, _, _, hb, hl, hc, ha, rfl, (fun hs => by cases hs), (fun s hs => by cases hs; exact ⟨hn, hm⟩)⟩
      obtain ⟨i', co, cap', hb, hl, hc, ha, rfl, hm0, hm1⟩ := hxc
      have back : ∀ len2, len ≤ len2 → len2 ≤ cap → VRel ρ (.slice (some ⟨b, o, m⟩) len2 cap) (.slice (some ⟨i'.cb, co, none⟩) len2 cap') := by
        intro len2 _ hl2
        cases m with
        | none => rw [hm0 rfl] at ha ⊢; exact .sl hb hl2 ha
        | some s => obtain ⟨q1, q2⟩ := hm1 s rfl; exact .slo hb hl2 hc q1 q2 ha
      split at h
      · rename_i hle
        split at h
        · rename_i hn0
          obtain ⟨rfl, rfl⟩ := pure_some h
          subst hn0
          have hnil : newc = [] := List.eq_nil_of_length_eq_zero (by rw [← hnew.length, hnl]; simp)
          subst hnil
          refine ⟨w, _, ρ, run_append_in h0 h1 hT hi (n := 0) (new := []) (w' := w) (hnc w) (by omega) hnrun (fun a _ => by simp [storeCells]) (fun _ => rfl), hR, .refl _ _ _, ?_⟩
          simpa using back len (Nat.le_refl _) hl
        · rename_i hn0
          obtain ⟨_, H2, h2, h3⟩ := bind_some h
          obtain ⟨rfl, rfl⟩ := pure_some h3
          unfold writeM at h2
          cases hw : writeN b (o + len * P.cellsOf e) new H with
          | none => simp [hw] at h2
          | some H3 =>
            simp [hw] at h2
            subst h2
            obtain ⟨w', g1, g2, g3⟩ := writeN_sim hR hb hnew hw
            have hco : co = o + i'.d := ha.resolve_right (by omega)
            refine ⟨w', _, ρ, run_append_in h0 h1 hT hi (hnc w) (by omega) hnrun (fun a ha' => ?_) (fun hc => by cases hc), g2, g3, back (len + n) (by omega) hle⟩
            cases ha'
            rw [add_none, show co + len * P.cellsOf e = o + len * P.cellsOf e + i'.d by omega]
            exact g1 P
      · rename_i hgt
        split at h
        · rename_i hroom
          have hb0 := bind_some h
          clear h
          obtain ⟨old, H2, ho, h⟩ := hb0
          obtain ⟨e0, oldc, hold, hol, horun⟩ := sim_sliceCells (P := P) hR hx ho
          have e1 := e0.symm
          clear e0
          subst e1
          have hb1 := bind_some h
          clear h
          obtain ⟨b', H3, h3, h⟩ := hb1
          have horun' : ∀ w' : World, w'.heap = w.heap → (Builtin.firstCells (P.cellsOf e) len (.slice (some ⟨i'.cb, co, none⟩) len cap')).run P w' = .ok oldc.toArray w' := fun w' hw =>
            run_firstCells_heap (P := P) (P.cellsOf e) len _ hw _ horun
          have hfull : LRel ρ (old ++ new) ((oldc.toArray ++ newc.toArray).toList) := by simpa using hold.append hnew
          have hlen : (old ++ new).length = (len + n) * P.cellsOf e := by rw [List.length_append, hol, hnl, Nat.add_mul]
          have l1 := hold.length
          have l2 := hnew.length
          -- a new array
          have fresh : cap' < len + n → ∃ w' vc ρ', (Builtin.append_ ts ty #[.slice (some ⟨i'.cb, co, none⟩) len cap', yc]).run P w = .ok vc w' ∧ Rel ρ' H3 w' ∧ Evo alc ρ H w ρ' H3 w' ∧
              VRel ρ' (.slice (some ⟨b', 0, some (P.cellsOf e)⟩) (len + n) (len + n)) vc := by
            intro hlt
            obtain ⟨k, hk⟩ := run_append_new (ty := ty) (old := oldc) (new := newc) h0 h1 hT hi hzv (hnc w) hlt hroom hnrun' horun'
            obtain ⟨ρ', he, hb', hR', hE⟩ := newRow_sim (cc := oldc.toArray ++ newc.toArray ++ Builtin.zeroCells zv.cells k) hR.drew hf h3 [] (by
              rw [Array.toList_append, List.take_left' (show (oldc.toArray ++ newc.toArray).toList.length = (old ++ new).length by simp; omega)]; exact hfull) (by simp; omega) (fun hs => by rw [hsp] at hs; cases hs)
            refine ⟨_, _, ρ', hk, hR', hE.of_drew, .slo hb' (Nat.le_refl _) (by omega) (by show 0 + (len + n) * P.cellsOf e = (old ++ new).length; rw [hlen]; omega) (.inl ?_) (.inl rfl)⟩
            simp only [List.length_append] at hlen
            simp [zeroCells_size, hzs, Nat.add_mul] at hlen ⊢
            omega
          split at h
          · obtain ⟨rfl, rfl⟩ := pure_some h
            exact fresh (by rw [hm0 rfl]; omega)
          · rename_i s
            by_cases hss : s = P.cellsOf e
            · rw [if_pos hss] at h
              subst hss
              unfold giveUp at h
              split at h
              · rename_i e0 cs0 hx0
                by_cases he0 : e0 = e
                case neg => rw [if_neg he0] at h; cases h
                rw [if_pos he0] at h
                have he1 : e = e0 := he0.symm
                subst he1
                cases h
                by_cases hlt : cap' < len + n
                · obtain ⟨w', vc, ρ', k1, k2, k3, k4⟩ := fresh hlt
                  obtain ⟨d1, d2⟩ := k2.del b
                  exact ⟨w', vc, ρ', k1, d1, k3.trans d2, k4⟩
                · -- the old array goes on
                  have hcap : 0 < cap' := by omega
                  have hco : co = o + i'.d := ha.resolve_right (by omega)
                  obtain ⟨q1, q2⟩ := hm1 _ rfl
                  have q2' := q2.resolve_right (by omega)
                  obtain ⟨n', hH3, hn1, hn2⟩ := newRow_with h3
                  have hb0 : ρ b' = none := by
                    unfold newRow at h3
                    split at h3
                    · rcases newAt_eq h3 with ⟨_, rfl, _⟩ | ⟨hal, _, _, _⟩
                      · exact hR.fresh _ (Nat.le_refl _)
                      · exact hf b' hal
                    · cases h3
                  have hq : H.next ≤ b' ∨ alc = some b' := by
                    unfold newRow at h3
                    split at h3
                    · rcases newAt_eq h3 with ⟨_, rfl, _⟩ | ⟨hal, _, _, _⟩
                      · exact .inl (Nat.le_refl _)
                      · exact .inr hal
                    · cases h3
                  have hok := newRow_ok h3
                  have hbb : b ≠ b' := fun eq => by subst eq; rw [hb] at hb0; cases hb0
                  have hxH : H.at_ b = some (.row e cs0 true) := by
                    rw [hH3] at hx0
                    simpa [AH.with, hbb] using hx0
                  obtain ⟨j, hj, hjb⟩ := hR.blk b _ hxH
                  rw [hb] at hj; cases hj
                  obtain ⟨hjn, cc, fz, r1, r2, r3, r4, r5⟩ := hjb
                  rw [r4 rfl] at r1
                  simp only [List.all_append, Bool.and_eq_true] at hok
                  have hst := run_storeCells_at P i'.cb (co + len * P.cellsOf e) e newc 0 cc w r1 (by
                    have : (len + n) * P.cellsOf e ≤ cap' * P.cellsOf e := Nat.mul_le_mul_right _ (by omega)
                    rw [Nat.add_mul] at this
                    omega) (all_oneCell hnew hok.2)
                  simp only [Nat.add_zero] at hst
                  -- what the old cells hold
                  have hread := hR
                  have hoc : ∀ (j : Nat) u, oldc[j]? = some u → cc[co + j]? = some u := by
                    intro j u hu
                    have hlt' : j < oldc.length := (List.getElem?_eq_some_iff.1 hu).1
                    have hr := horun
                    by_cases hl0 : len = 0
                    · subst hl0; simp at hol; rw [hol] at l1; simp at l1; rw [← l1] at hlt'; simp at hlt'
                    · exact firstCells_cell r1 horun hu
                  rw [hH3]
                  have hBR : BlkR (ρ.put b' ⟨i'.cb, co, (old ++ new).length, i'.m⟩) (w.setRow i'.cb (cc.toList.take (co + len * P.cellsOf e) ++ newc ++ cc.toList.drop (co + len * P.cellsOf e + newc.length)).toArray)
                      ⟨i'.cb, co, (old ++ new).length, i'.m⟩ (.row e (old ++ new) true) := by
                    refine ⟨⟨rfl, fun hs => by rw [hsp] at hs; cases hs⟩, _, (0, 0), setRow_heap w _ _ _ _ _ r1, ?_, ?_, fun _ => rfl, fun k v hk => ?_⟩
                    · rw [← r2]; simp
                      have : (len + n) * P.cellsOf e ≤ cap' * P.cellsOf e := Nat.mul_le_mul_right _ (by omega)
                      rw [Nat.add_mul] at this
                      omega
                    · simp only [hlen]
                      have : (len + n) * P.cellsOf e ≤ cap' * P.cellsOf e := Nat.mul_le_mul_right _ (by omega)
                      simp
                      rw [Nat.add_mul] at this ⊢
                      omega
                    · have : (len + n) * P.cellsOf e ≤ cap' * P.cellsOf e := Nat.mul_le_mul_right _ (by omega)
                      rw [Nat.add_mul] at this
                      have e2 : min (co + len * P.cellsOf e) cc.size = co + len * P.cellsOf e := by omega
                      simp only [List.getElem?_toArray, List.getElem?_append, List.length_take, List.length_append, Array.length_toList, e2]
                      simp only [List.getElem?_append] at hk
                      split at hk
                      · rename_i hkl
                        obtain ⟨v', g1, g2⟩ := hold.get hk
                        refine ⟨v', ?_, g2.mono (Emb.put_ext hb0)⟩
                        have := hoc k v' g1
                        rw [if_pos (by omega), if_pos (by omega), List.getElem?_take, if_pos (by omega), Array.getElem?_toList, Nat.add_comm]
                        exact this
                      · rename_i hkl
                        obtain ⟨v', g1, g2⟩ := hnew.get hk
                        have hkl2 : k - old.length < newc.length := (List.getElem?_eq_some_iff.1 g1).1
                        refine ⟨v', ?_, g2.mono (Emb.put_ext hb0)⟩
                        rw [if_pos (by omega), if_neg (by omega), show k + co - (co + len * P.cellsOf e) = k - old.length by omega]
                        exact g1
                  obtain ⟨t1, t2⟩ := hR.take (x' := .row e (old ++ new) true) (j := ⟨i'.cb, co, (old ++ new).length, i'.m⟩) (w' := w.setRow i'.cb (cc.toList.take (co + len * P.cellsOf e) ++ newc ++ cc.toList.drop (co + len * P.cellsOf e + newc.length)).toArray)
                    hxH rfl hb hn1 hn2 hq hb0 rfl (by simp) (fun cb hne => setRow_other w _ _ _ hne) rfl rfl hBR
                  · refine ⟨_, _, _, run_append_in h0 h1 hT hi (hnc w) (by omega) hnrun (fun a ha' => ?_) (fun hc => by cases hc), t1, t2, ?_⟩
                    · cases ha'
                      rw [add_none]
                      exact hst
                    · refine .slo (i := ⟨i'.cb, co, (old ++ new).length, i'.m⟩) (Emb.put_same _ _ _) (Nat.le_refl _) (by omega) ?_ (.inl q2') (.inl ?_)
                      · show 0 + (len + n) * P.cellsOf e = (old ++ new).length
                        rw [hlen]; omega
                      · show co = 0 + co
                        omega
              · cases h
            · rw [if_neg hss] at h
              cases h
        · cases h
    · cases h

end Go.Proofs.YtepchknpgeopfaaGreatDoor.E
