/- keys: a text's own bytes ('[]byte(s)'), read and written. -/
import Derived.Test.YthmdiopbiiimeaaDoorKrg
import Derived.Test.YthmdiopbiiimeaaDoorSs
import Derived.Lib.ConvBytes
import Derived.Laws.CopyRow
namespace Go.Proofs.YthmdiopbiiimeaaDoor.bd
open Go.RowKit
/-- the block that '[]byte(s)' makes: the bytes, and what stands behind them -/
abbrev Cv (b : Nat) (T : TypeId) (l pad : List B8) : Ck := .obj b (.cells (bvs (l ++ pad)).toArray T ((l ++ pad).length, (l ++ pad).length + 1))
section
variable {P : Program} {n : Nat} {M : Me} {Q : Post} {t : Fr} {L : List Ck} {ops : Array Oper} {s : Way} {i : Nat} {rest : List Oper}
theorem Mem.newany {w w' : World} {c' : Ck} (h : Mem M L w) (hos : w'.os = w.os) (htape : w'.tape = w.tape) (hout : w'.output = w.output) (hsz : w.heap.size ≤ w'.heap.size) (hst : ∀ b, b < w.heap.size → w'.heap[b]? = w.heap[b]?) (hc : c'.holds w') (hon : ∀ b, c'.on b → w.heap.size ≤ b) : Mem M (c' :: L) w' := by
  refine ⟨⟨hos.trans h.keep.os, htape.trans h.keep.tape, hout.trans h.keep.output, Nat.le_trans h.keep.size hsz, fun k hk hd => (hst k (Nat.lt_of_lt_of_le hk h.keep.size)).trans (h.keep.block k hk hd)⟩, fun c hc' => ?_, fun c hc' hcm b hb => ?_, List.Pairwise.cons (fun c hc' _ b hb hb' => ?_) h.sep⟩
  · rcases List.mem_cons.1 hc' with rfl | hc'
    · exact hc
    · exact Ck.stay hsz (fun b hb => hst b (Ck.lt (h.all c hc') hb)) (h.all c hc')
  · rcases List.mem_cons.1 hc' with rfl | hc'
    · exact .inr (Nat.le_trans h.keep.size (hon b hb))
    · exact h.out c hc' hcm b hb
  · exact absurd (Ck.lt (h.all c hc') hb') (Nat.not_lt.2 (hon b hb))
theorem bytesCells_eq (w : World) (e : TypeId) (l : List B8) : Lib.bytesCells w e (sb l) = (bvs (l ++ List.replicate (grownCap w l.length 0 e - l.length) 0#8)).toArray := by
  apply Array.ext'
  rw [Lib.bytesCells, sb_size]
  simp [sb, bvs, bv]
theorem lx_bytesO {E : Env P} {S T : TypeId} {x : Operand} {dst : Option Tmp} {ty : TypeId} {pos : String} {after : Array Edge} {guard : Option (Nat × Bool)} {d : Nat} {e : TypeId} {l : List B8} (hl : s.loud i = true) {p : Option Bool} (hg : gOf ops t ⟨dst, .convert S T x, ty, pos, after, guard⟩ = some p) (hp : cb p = true) (hd : dst = some d) (hn : Nat.blt d n = true)
    (hx : o1 t x = some (.string (sb l))) (hS : tyOf E.f S = .string) (hT : tyOf E.f T = .slice e) (he : tyOf E.f e = .int .u8) (hgs : s.gives L → ∀ c', s.gives (c' :: L))
    (h : ∀ b pad, LX P n M ops s (i + 1) rest Q ((d, none, .slice (some ⟨b, 0, none⟩) l.length (l ++ pad).length) :: t) (Cv b e l pad :: L)) : LX P n M ops s i (⟨dst, .convert S T x, ty, pos, after, guard⟩ :: rest) Q t L :=
  lx_loud hl hg hp fun a w hf hm hs K hK => by
    have hr := Lib.run_convert_string_bytes (P := P) w S T e (sb l) (tyOf_string hS) (tyOf_slice hT) (tyOf_int he)
    have hge : l.length ≤ grownCap w l.length 0 e := by simpa using grownCap_ge w l.length 0 e
    have hnew := Lib.bytesWorld_at_new w e (sb l)
    rw [bytesCells_eq] at hnew
    have hlen : (l ++ List.replicate (grownCap w l.length 0 e - l.length) 0#8).length = grownCap w l.length 0 e := by rw [List.length_append, List.length_replicate]; omega
    unfold Oper.wp execOp
    simp only [hf.o1 hx, Sem.run_bind, hr, Result.andThen_ok, Sem.run_pure]
    rw [sb_size] at hr ⊢
    show K (a.put dst _) _
    rw [hd]
    have h' := h w.heap.size (List.replicate (grownCap w l.length 0 e - l.length) 0#8)
    rw [hlen] at h'
    refine hK _ _ _ _ (hf.put1 (Nat.le_of_ble_eq_true hn) _) (Mem.newany hm (c' := Cv w.heap.size e l (List.replicate (grownCap w l.length 0 e - l.length) 0#8)) rfl rfl rfl (by rw [Lib.bytesWorld_size]; omega) (fun b hb => Lib.bytesWorld_at_old w e (sb l) b hb) ?_ (fun b hb => Nat.le_of_eq hb)) (hgs hs _) h'
    show _ = _
    rw [hnew]
    simp [bvs_len]
theorem cv_cell {w : World} {k b : Nat} {T : TypeId} {l pad : List B8} (hm : Mem M L w) (hk : L[k]? = some (Cv b T l pad)) {off : Nat} {y : B8} (hv : (l ++ pad)[off]? = some y) : w.cell? ⟨b, off, none⟩ = some (bv y) := by
  have h : w.heap[b]? = some (.cells (bvs (l ++ pad)).toArray T ((l ++ pad).length, (l ++ pad).length + 1)) := hm.get hk
  have := bvs_get hv
  simp only [World.cell?, h]
  simpa using this
theorem atI_b (b off : Nat) : atI (some ⟨b, 0, none⟩) off = .pointer (some ⟨b, off, none⟩) := by
  unfold atI Addr.add
  simp only [Option.map_some]
  split
  · rename_i h
    rw [h]
  · simp
theorem yl_loadO {E : Env P} {p c1 : Option Bool} {dst : Option Tmp} {T T' : TypeId} {x : Operand} {ty : TypeId} {pos : String} {after : Array Edge} {guard : Option (Nat × Bool)} {b off : Nat} {l pad : List B8} {y : B8} {j : TyI} (k : Nat) (hx : ov t x = some (c1, atI (some ⟨b, 0, none⟩) off))
    (hT : E.f T = some j) (ha : isAggD j.desc = false) (hk : L[k]? = some (Cv b T' l pad)) (h1 : cb p = true → cb c1 = true) (hv : cb p = true → (l ++ pad)[off]? = some y) : Yl P n t L p ⟨dst, .load T x, ty, pos, after, guard⟩ (bv y) := fun hp M a w hf hm => by
  rw [atI_b] at hx
  have hc := cv_cell hm hk (hv hp)
  have hu := isAgg_run hT w
  have hr : (loadVar T ⟨b, off, none⟩).run P w = .ok (bv y) w := by
    unfold Go.loadVar
    simp only [ha] at hu
    simp [hu, load, Sem.run, hc]
  unfold execOp
  refine run_v ?_
  rw [hf.ov hx (h1 hp)]
  simp [Instr.loadAt, Instr.sureAddr, hr]
theorem lx_storeO {E : Env P} {T T' : TypeId} {x y : Operand} {ty : TypeId} {pos : String} {after : Array Edge} {guard : Option (Nat × Bool)} {b off : Nat} {l pad : List B8} {u : B8} {j : TyI} (k : Nat) (hl : s.loud i = true) {p : Option Bool} (hg : gOf ops t ⟨none, .store T x y, ty, pos, after, guard⟩ = some p) (hp : cb p = true)
    (hx : o1 t x = some (atI (some ⟨b, 0, none⟩) off)) (hy : o1 t y = some (bv u)) (hT : E.f T = some j) (hj : j.size = 1) (hk : L[k]? = some (Cv b T' l pad)) (hfit : off < l.length) (hgs : s.gives L → s.gives (L.set k (Cv b T' (l.set off u) pad)))
    (h : LX P n M ops s (i + 1) rest Q t (L.set k (Cv b T' (l.set off u) pad))) : LX P n M ops s i (⟨none, .store T x y, ty, pos, after, guard⟩ :: rest) Q t L :=
  lx_loud hl hg hp fun a w hf hm hs K hK => by
    rw [atI_b] at hx
    have hb : w.heap[b]? = some (.cells (bvs (l ++ pad)).toArray T' ((l ++ pad).length, (l ++ pad).length + 1)) := hm.get hk
    have hlt : off < (l ++ pad).length := by rw [List.length_append]; omega
    have hc : w.cell? ⟨b, off, none⟩ = some (bv (l ++ pad)[off]) := cv_cell hm hk (List.getElem?_eq_getElem hlt)
    have hz : w.frozen? ⟨b, off, none⟩ = false := by
      simp only [World.frozen?, hb, Bool.and_eq_false_iff, decide_eq_false_iff_not]
      left
      omega
    have hsz := E.size hT w
    rw [hj] at hsz
    have hst : (store ⟨b, off, none⟩ (bv u)).run P w = .ok () (w.setRow b ((bvs (l ++ pad)).toArray.setIfInBounds off (bv u))) := by
      rw [run_store P w _ (bv u) _ rfl, hc]
      simp [hz, setCell_eq_setRow w b off (bvs (l ++ pad)).toArray T' _ (bv u) hb]
    have hadd : (⟨b, off, none⟩ : Addr).add 0 = ⟨b, off, none⟩ := rfl
    have hr : (storeVar T ⟨b, off, none⟩ (bv u)).run P w = .ok () (w.setRow b ((bvs (l ++ pad)).toArray.setIfInBounds off (bv u))) := by
      unfold Go.storeVar
      simp [hsz, bv, Value.cells, storeCells, hadd]
      simpa [bv] using hst
    unfold Oper.wp execOp
    simp only [hf.o1 hx, hf.o1 hy, Instr.storeAt, Instr.sureAddr, Sem.run_bind, Sem.run_pure, Result.andThen_ok, hr]
    refine hK _ _ _ _ hf (hm.turn (c' := Cv b T' (l.set off u) pad) hk rfl (fun g hg => .inl hg) rfl rfl rfl (by simp [World.setRow]) (fun g _ hne => setRow_other _ _ _ _ (fun e => hne e.symm)) ?_) (hgs hs) h
    have e : (bvs (l ++ pad)).toArray.setIfInBounds off (bv u) = (bvs (l.set off u ++ pad)).toArray := by
      apply Array.ext'
      rw [Array.toList_setIfInBounds]
      show (bvs (l ++ pad)).set off (bv u) = bvs (l.set off u ++ pad)
      rw [bvs, bvs, ← List.map_set, List.set_append_left _ _ hfit]
    show _ = _
    rw [setRow_heap w b _ _ T' _ hb, e]
    simp
theorem cv_row {w : World} {k b m : Nat} {T : TypeId} {l pad : List B8} (hm : Mem M L w) (hk : L[k]? = some (Cv b T l pad)) (h : m ≤ l.length) : Row w w.heap.size 1 (some ⟨b, 0, none⟩) m (bvs (l.take m)) := by
  have hb : w.heap[b]? = some (.cells (bvs (l ++ pad)).toArray T ((l ++ pad).length, (l ++ pad).length + 1)) := hm.get hk
  have hlt : b < w.heap.size := by
    rcases Nat.lt_or_ge b w.heap.size with h' | h'
    · exact h'
    · simp [Array.getElem?_eq_none h'] at hb
  refine ⟨by rw [bvs_len, List.length_take]; omega, fun _ => ⟨b, 0, rfl, hlt, fun j u hu => ?_⟩⟩
  have hj : j < m := by
    have := (List.getElem?_eq_some_iff.1 hu).1
    rw [bvs_len, List.length_take] at this
    omega
  have hy : (l ++ pad)[j]? = some l[j] := by rw [List.getElem?_append_left (by omega), List.getElem?_eq_getElem (by omega)]
  have hc := cv_cell hm hk hy
  have hu2 : (bvs (l.take m))[j]? = some (bv l[j]) := bvs_get (by rw [List.getElem?_take, if_pos hj, List.getElem?_eq_getElem (by omega)])
  rw [hu2] at hu
  cases hu
  rw [Nat.zero_add]
  exact hc
end
end Go.Proofs.YthmdiopbiiimeaaDoor.bd
