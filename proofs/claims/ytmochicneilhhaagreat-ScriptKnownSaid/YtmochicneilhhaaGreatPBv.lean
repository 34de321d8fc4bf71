/- More rules: functions that the model itself answers; what a call is handed. More rules: calls told by the places of the chunks that they are handed. A range over a function, in the walk's own judgements: code in a round or not, deferred marks, a round's contract. More rules: numbers without sign, as rows of binary digits. -/
import Derived.Test.YtmochicneilhhaaGreatPSf
import Derived.Deep.OwnRows
import Derived.RangeFuncRecord
import Derived.OrdersIn
import Derived.Laws.BitsAllLaws
import Derived.Laws.BitsLemmas
import Derived.Laws.Bits64
namespace Go.Proofs.YtmochicneilhhaaGreat
open Go.RowKit
section
variable {P : Program} {n : Nat} {M : Me} {Q : Post} {t : Fr} {L : List Ck} {ops : Array Oper} {s : Way} {i : Nat} {rest : List Oper}
/-- the chunks of those places, as a call is handed them -/
theorem Mem.enter {w : World} (h : Mem M L w) (ks : List Nat) (hn : ks.Nodup) {D : List Nat} {L' : List Ck} (he : pickL L ks = L') (hD : ∀ c ∈ L', c.mut_ = true → ∀ b, c.on b → b ∈ D) : Mem ⟨w, D⟩ L' w := by
  have hp := h.pick ks hn
  rw [he] at hp
  exact ⟨Keep.refl w D, hp.all, fun c hc hm b hb => .inl (hD c hc hm b hb), hp.sep⟩
theorem Gives.app {L L' : List Ck} (h : Gives L L') {M : Me} {w : World} (hm : Mem M L w) : Mem M L' w := h M w hm
theorem Gives.put {L L' : List Ck} (h : ∀ M w, Mem M L w → Mem M L' w) : Gives L L' := h
/-- what memory says, as a plain fact -/
theorem lx_fact {φ : Prop} (h : ∀ w, Mem M L w → φ) (hk : φ → LX P n M ops s i rest Q t L) : LX P n M ops s i rest Q t L := fun hs a w hf hm => hk (h w hm) hs a w hf hm
theorem cx_fact {c : Code} {φ : Prop} (h : ∀ w, Mem M L w → φ) (hk : φ → CX P n M c Q t L) : CX P n M c Q t L := fun a w hf hm => hk (h w hm) a w hf hm
theorem Mem.again {w : World} (h : Mem M L w) (D : List Nat) (hD : ∀ c ∈ L, c.mut_ = true → ∀ b, c.on b → b ∈ D) : Mem ⟨w, D⟩ L w :=
  ⟨Keep.refl w D, h.all, fun c hc hm b hb => .inl (hD c hc hm b hb), h.sep⟩
theorem lx_ext {dst : Option Tmp} {fx : Operand} {xs : Array Operand} {ts : Array TypeId} {ty : TypeId} {pos : String} {after : Array Edge} {guard : Option (Nat × Bool)} {d : Nat} {f : FuncId} {first captured : Array Value} {vs args : List Value} {v : Value} {L' : List Ck}
    (h : ∀ M w, Mem M L w → ∃ w', (callFunc f args.toArray).run P w = .ok (.value v) w' ∧ Mem M L' w') (hgs : s.gives L → s.gives L')
    (hl : s.loud i = true) {p : Option Bool} (hg : gOf ops t ⟨dst, .call ⟨.value fx, xs, ts⟩, ty, pos, after, guard⟩ = some p) (hp : cb p = true) (hd : dst = some d) (hn : Nat.blt d n = true) (hx : o1 t fx = some (.func (.func f) first captured)) (hxs : o1s t xs.toList = some vs) (hargs : first.toList ++ vs ++ captured.toList = args)
    (hk : LX P n M ops s (i + 1) rest Q ((d, none, v) :: t) L') : LX P n M ops s i (⟨dst, .call ⟨.value fx, xs, ts⟩, ty, pos, after, guard⟩ :: rest) Q t L :=
  lx_loud hl hg hp fun a w hf hm hs K hK => by
    have hev : xs.map a.eval = vs.toArray := by
      apply Array.ext'
      have := o1s_eval hf hxs
      simpa using this
    have hall : first ++ xs.map a.eval ++ captured = args.toArray := by
      apply Array.ext'
      rw [hev, ← hargs]
      simp
    obtain ⟨w', hr, hm'⟩ := h M w hm
    unfold Oper.wp execOp
    simp only [resolve, hf.o1 hx, Deferred.ofValue, Sem.run_bind, Sem.run_pure, Result.andThen_ok, invoke, hall, hr]
    show K (a.put dst v) w'
    rw [hd]
    exact hK _ _ _ _ (hf.put1 (Nat.le_of_ble_eq_true hn) v) hm' (hgs hs) hk
/-- one that changes nothing -/
theorem lx_ext0 {dst : Option Tmp} {fx : Operand} {xs : Array Operand} {ts : Array TypeId} {ty : TypeId} {pos : String} {after : Array Edge} {guard : Option (Nat × Bool)} {d : Nat} {f : FuncId} {first captured : Array Value} {vs args : List Value} {v : Value}
    (h : ∀ M w, Mem M L w → (callFunc f args.toArray).run P w = .ok (.value v) w)
    (hl : s.loud i = true) {p : Option Bool} (hg : gOf ops t ⟨dst, .call ⟨.value fx, xs, ts⟩, ty, pos, after, guard⟩ = some p) (hp : cb p = true) (hd : dst = some d) (hn : Nat.blt d n = true) (hx : o1 t fx = some (.func (.func f) first captured)) (hxs : o1s t xs.toList = some vs) (hargs : first.toList ++ vs ++ captured.toList = args)
    (hk : LX P n M ops s (i + 1) rest Q ((d, none, v) :: t) L) : LX P n M ops s i (⟨dst, .call ⟨.value fx, xs, ts⟩, ty, pos, after, guard⟩ :: rest) Q t L :=
  lx_ext (fun M w hm => ⟨w, h M w hm, hm⟩) (fun hs => hs) hl hg hp hd hn hx hxs hargs hk
/-- a block's cells, as they are read -/
theorem ro_cell {w : World} {k b m off : Nat} {cs : List Value} {v : Value} (hm : Mem M L w) (hk : L[k]? = some (.ro (some ⟨b, 0, none⟩) m 1 cs)) (hv : cs[off]? = some v) : w.cell? ⟨b, off, none⟩ = some v := by
  have hr : Row w w.heap.size 1 (some ⟨b, 0, none⟩) m cs := hm.get hk
  have hlt : off < cs.length := (List.getElem?_eq_some_iff.1 hv).1
  have hl := hr.1
  obtain ⟨g, o, he, _, hc⟩ := hr.2 (by omega)
  cases he
  have := hc off v hv
  simpa using this
theorem Mem.loadRo {E : Env P} {w : World} {k b m off : Nat} {cs : List Value} {T : TypeId} {j : TyI} {v : Value} (hm : Mem M L w) (hT : E.f T = some j) (hk : L[k]? = some (.ro (some ⟨b, 0, none⟩) m 1 cs)) (hv : evPart E.f T cs off = some v)
    (hin : isAggD j.desc = true → off + j.size ≤ cs.length) : (Go.loadVar T ⟨b, off, none⟩).run P w = .ok v w := by
  have hu := isAgg_run hT w
  have hs := E.size hT w
  unfold evPart at hv
  simp only [hT] at hv
  unfold Go.loadVar
  cases ha : isAggD j.desc
  · simp only [ha] at hv hu
    have hc := ro_cell hm hk hv
    simp [hu, load, Sem.run, hc]
  · simp only [ha] at hv hin hu
    cases hv
    have hl : (List.take j.size (List.drop off cs)).length = j.size := by have := hin trivial; simp at this ⊢; omega
    have hcells := run_loadCells_list (P := P) w ⟨b, off, none⟩ (List.take j.size (List.drop off cs)) (fun q u hu => by
      rw [List.getElem?_take] at hu
      split at hu
      · rw [List.getElem?_drop] at hu
        have := ro_cell (off := off + q) hm hk hu
        rw [add_at]
        exact this
      · cases hu)
    rw [hl] at hcells
    simp [hu, hs, hcells]
theorem yl_loadR {E : Env P} {p c : Option Bool} {dst : Option Tmp} {T : TypeId} {x : Operand} {ty : TypeId} {pos : String} {after : Array Edge} {guard : Option (Nat × Bool)} {b off : Nat} {v : Value} (k : Nat) {m : Nat} {cs : List Value} {j : TyI} (hx : ov t x = some (c, .pointer (some ⟨b, off, none⟩))) (hT : E.f T = some j) (hk : L[k]? = some (.ro (some ⟨b, 0, none⟩) m 1 cs))
    (hin : Nat.ble (off + j.size) cs.length = true) (hv : evPart E.f T cs off = some v) (hc : cb p = true → cb c = true) : Yl P n t L p ⟨dst, .load T x, ty, pos, after, guard⟩ v := fun hp M a w hf hm => by
  unfold execOp
  refine run_v ?_
  rw [hf.ov hx (hc hp)]
  simp [Instr.loadAt, Instr.sureAddr, hm.loadRo hT hk hv (fun _ => Nat.le_of_ble_eq_true hin)]
/-- a cell at a place that is reckoned -/
theorem yl_loadV {E : Env P} {p c : Option Bool} {dst : Option Tmp} {T : TypeId} {x : Operand} {ty : TypeId} {pos : String} {after : Array Edge} {guard : Option (Nat × Bool)} {b off : Nat} {v : Value} (k : Nat) {cs : List Value} {T' : TypeId} {j : TyI} (hx : ov t x = some (c, .pointer (some ⟨b, off, none⟩))) (hT : E.f T = some j) (hk : L[k]? = some (.blk b cs T'))
    (ha : isAggD j.desc = false) (hv : cb p = true → cs[off]? = some v) (hc : cb p = true → cb c = true) : Yl P n t L p ⟨dst, .load T x, ty, pos, after, guard⟩ v := fun hp M a w hf hm => by
  unfold execOp
  refine run_v ?_
  rw [hf.ov hx (hc hp)]
  have hv' : evPart E.f T cs off = some v := by simp only [evPart, hT, ha]; exact hv hp
  simp [Instr.loadAt, Instr.sureAddr, hm.loadVar hT hk hv' (fun h => by rw [ha] at h; cases h)]
theorem yl_loadVR {E : Env P} {p c : Option Bool} {dst : Option Tmp} {T : TypeId} {x : Operand} {ty : TypeId} {pos : String} {after : Array Edge} {guard : Option (Nat × Bool)} {b off : Nat} {v : Value} (k : Nat) {m : Nat} {cs : List Value} {j : TyI} (hx : ov t x = some (c, .pointer (some ⟨b, off, none⟩))) (hT : E.f T = some j) (hk : L[k]? = some (.ro (some ⟨b, 0, none⟩) m 1 cs))
    (ha : isAggD j.desc = false) (hv : cb p = true → cs[off]? = some v) (hc : cb p = true → cb c = true) : Yl P n t L p ⟨dst, .load T x, ty, pos, after, guard⟩ v := fun hp M a w hf hm => by
  unfold execOp
  refine run_v ?_
  rw [hf.ov hx (hc hp)]
  have hv' : evPart E.f T cs off = some v := by simp only [evPart, hT, ha]; exact hv hp
  simp [Instr.loadAt, Instr.sureAddr, hm.loadRo hT hk hv' (fun h => by rw [ha] at h; cases h)]
/-- an element of an array in memory -/
theorem yl_indexP {E : Env P} {p c1 c2 : Option Bool} {dst : Option Tmp} {T : TypeId} {x y : Operand} {ty : TypeId} {pos : String} {after : Array Edge} {guard : Option (Nat × Bool)} {b off m : Nat} {κ : IntKind} {iv : Int} {e : TypeId} {j : TyI}
    (hx : ov t x = some (c1, .pointer (some ⟨b, off, none⟩))) (hy : ov t y = some (c2, .int κ iv)) (hT : tyOf E.f T = .array m e) (he : E.f e = some j)
    (h1 : cb p = true → cb c1 = true) (h2 : cb p = true → cb c2 = true) (hb : cb p = true → 0 ≤ iv ∧ iv < m) : Yl P n t L p ⟨dst, .indexAddr T x y, ty, pos, after, guard⟩ (.pointer (some ⟨b, off + mulI iv.toNat j.size, none⟩)) := fun hp M a w hf hm => by
  have hu := run_underlying (P := P) (tyOf_array hT) w
  have hs := E.size he w
  obtain ⟨hb1, hb2⟩ := hb hp
  unfold execOp
  refine run_v ?_
  rw [hf.ov hx (h1 hp), hf.ov hy (h2 hp)]
  simp [Instr.indexAt, asIntOf, Instr.sureAddr, hu, hb1, hb2, hs, mulI_eq, add_at]
/-- a store at a place that is reckoned -/
theorem lx_storeV {E : Env P} {T : TypeId} {x y : Operand} {ty : TypeId} {pos : String} {after : Array Edge} {guard : Option (Nat × Bool)} {b off : Nat} {v : Value} (k : Nat) {cs : List Value} {T' : TypeId} {j : TyI} (hl : s.loud i = true) {p : Option Bool} (hg : gOf ops t ⟨none, .store T x y, ty, pos, after, guard⟩ = some p) (hp : cb p = true)
    (hx : o1 t x = some (.pointer (some ⟨b, off, none⟩))) (hy : o1 t y = some v) (hT : E.f T = some j) (hk : L[k]? = some (.blk b cs T')) (hv : (cellsL v).length = j.size) (hfit : off + j.size ≤ cs.length) (h1 : (cellsL v).all Value.oneCell' = true)
    (hgs : s.gives L → s.gives (L.set k (.blk b (setL cs off (cellsL v)) T')))
    (h : LX P n M ops s (i + 1) rest Q t (L.set k (.blk b (setL cs off (cellsL v)) T'))) : LX P n M ops s i (⟨none, .store T x y, ty, pos, after, guard⟩ :: rest) Q t L :=
  lx_store (E := E) k hl hg hp hx hy hT hk hv hfit h1 hgs h
end
end Go.Proofs.YtmochicneilhhaaGreat
namespace Go.Proofs.YtmochicneilhhaaGreat
open Go.RowKit
section
variable {P : Program} {n : Nat} {M : Me} {Q : Post} {t : Fr} {L : List Ck} {ops : Array Oper} {s : Way} {i : Nat} {rest : List Oper}
/-- what may change lies in the blocks of D -/
def AllD (D : List Nat) : List Ck → Prop
  | [] => True
  | .blk b _ _ :: r => b ∈ D ∧ AllD D r
  | .own A _ _ _ _ _ :: r => (∀ b, A.map (·.block) = some b → b ∈ D) ∧ AllD D r
  | .obj b _ :: r => b ∈ D ∧ AllD D r
  | _ :: r => AllD D r
theorem AllD.spec {D : List Nat} : ∀ {L : List Ck}, AllD D L → ∀ c ∈ L, c.mut_ = true → ∀ b, c.on b → b ∈ D
  | c' :: r, h, c, hc, hm, b, hb => by
    rcases List.mem_cons.1 hc with rfl | hc
    · cases c with
      | blk g cs T => cases hb; exact h.1
      | own A n c T sz xs => exact h.1 b hb
      | ro => cases hm
      | deep => cases hm
      | obj g o => cases hb; exact h.1
    · refine AllD.spec (L := r) ?_ c hc hm b hb
      cases c' with
      | blk g cs T => exact h.2
      | own A n c T sz xs => exact h.2
      | ro => exact h
      | deep => exact h
      | obj g o => exact h.2
/-- chunks that are only read, as a call is handed them -/
theorem Mem.ros {w : World} (h : Mem M L w) (ks : List Nat) (hn : ks.Nodup) {L' : List Ck} (he : pickL L ks = L') (hm : L'.all (fun c => !c.mut_) = true) : Mem ⟨w, []⟩ L' w := h.enter ks hn he fun c hc hcm => by
  have := List.all_eq_true.1 hm c hc
  rw [hcm] at this
  cases this
/-- what is known less, or otherwise -/
theorem lx_weak {L' : List Ck} (hg : Gives L L') (h : LX P n M ops .seq i rest Q t L') : LX P n M ops .seq i rest Q t L := fun _ a w hf hm => h trivial a w hf (hg M w hm)
theorem cx_weakL {c : Code} {L' : List Ck} (hg : Gives L L') (h : CX P n M c Q t L') : CX P n M c Q t L := fun a w hf hm => h a w hf (hg M w hm)
/-- a call that is handed the chunks of ki, of which it may change those of k1; those of k2 stay -/
theorem lx_callk {dst : Option Tmp} {fx : Operand} {xs : Array Operand} {ts : Array TypeId} {ty : TypeId} {pos : String} {after : Array Edge} {guard : Option (Nat × Bool)} {d : Nat} {f : FuncId} {first captured : Array Value} {vs args : List Value} {Lin : List Ck} {D : List Nat} {post : Value → List Ck → Prop}
    (h : Fn P f args Lin D post) (ki k1 k2 : List Nat) {L1 L2 : List Ck} (hi : pickL L ki = Lin) (e1 : pickL L k1 = L1) (e2 : pickL L k2 = L2) (hni : ki.Nodup) (hnn : (k1 ++ k2).Nodup) (hin : AllD D Lin) (hD : ∀ b ∈ D, ∃ c ∈ L1, c.mut_ = true ∧ c.on b) (hgs : ∀ Lo, s.gives L → s.gives (Lo ++ L2))
    (hl : s.loud i = true) {p : Option Bool} (hg : gOf ops t ⟨dst, .call ⟨.value fx, xs, ts⟩, ty, pos, after, guard⟩ = some p) (hp : cb p = true) (hd : dst = some d) (hn : Nat.blt d n = true) (hx : o1 t fx = some (.func (.func f) first captured)) (hxs : o1s t xs.toList = some vs) (hargs : first.toList ++ vs ++ captured.toList = args)
    (hk : ∀ v Lo, post v Lo → LX P n M ops s (i + 1) rest Q ((d, none, v) :: t) (Lo ++ L2)) : LX P n M ops s i (⟨dst, .call ⟨.value fx, xs, ts⟩, ty, pos, after, guard⟩ :: rest) Q t L :=
  lx_call h L1 L2 (Gives.pick (k1 ++ k2) hnn (by rw [← e1, ← e2]; exact List.filterMap_append ..)) (fun _ hm => hm.enter ki hni hi hin.spec) hD hgs hl hg hp hd hn hx hxs hargs hk
theorem made_list (z : Value) (m : Nat) : madeCells #[z] m = (List.replicate m z).toArray := by
  apply Array.ext
  · simp [madeCells]
  · intro i h1 h2
    simp [madeCells, Nat.mod_one]
/-- 'make', of so many elements of one cell each -/
theorem lx_make {E : Env P} {T : TypeId} {x y : Operand} {dst : Option Tmp} {ty : TypeId} {pos : String} {after : Array Edge} {guard : Option (Nat × Bool)} {d : Nat} {e : TypeId} {j : TyI} {z : Value} {kl kc : IntKind} {m1 m2 : Int} (m : Nat) (hl : s.loud i = true) {p : Option Bool} (hg : gOf ops t ⟨dst, .makeSlice T x y, ty, pos, after, guard⟩ = some p) (hp : cb p = true) (hd : dst = some d) (hn : Nat.blt d n = true)
    (hx : o1 t x = some (.int kl m1)) (hy : o1 t y = some (.int kc m2)) (h1 : m1 = m) (h2 : m2 = m) (hT : tyOf E.f T = .slice e) (he : E.f e = some j) (hz : j.zero = some z) (hs : j.size = 1) (hz1 : cellsL z = [z]) (hb : j.bytes * m ≤ 281474976710656) (h63 : m ≤ 9223372036854775807)
    (h : ∀ b, LX P n M ops s (i + 1) rest Q ((d, none, .slice (some ⟨b, 0, none⟩) m m) :: t) (.blk b (List.replicate m z) e :: L)) : LX P n M ops s i (⟨dst, .makeSlice T x y, ty, pos, after, guard⟩ :: rest) Q t L :=
  lx_new hl hg hp hd hn (fun b => .slice (some ⟨b, 0, none⟩) m m) (fun a w hf => by
    obtain ⟨g, hgi, g1, g2, g3⟩ := E.info he
    have hr := run_make_row (P := P) T e g z (tyOf_slice hT) hgi (g3.trans hz) (g1.trans hs) (by rw [cellsL_ok, hz1]) kl kc m (by rw [g2]; exact hb) h63 w
    have e1 := hf.o1 hx
    have e2 := hf.o1 hy
    rw [h1] at e1
    rw [h2] at e2
    rw [made_list] at hr
    unfold execOp
    refine run_v2 ?_
    rw [e1, e2]
    exact hr) h
end
end Go.Proofs.YtmochicneilhhaaGreat
namespace Go.Proofs.YtmochicneilhhaaGreat
open Go.RowKit

section
variable {P : Program} {n m : Nat} {M : Me} {ρ : Option Nat} {ds : List Deferred} {ops : Array Oper} {Q : Exit → Act → World → Prop}
theorem put_defers (a : Act) (d : List Deferred) (dst : Option Tmp) (v : Value) : ({ a with defers := d } : Act).put dst v = { a.put dst v with defers := d } := by cases dst <;> rfl
end
/-- posts that look at the marks -/
abbrev PostD := List Deferred → Post
section
variable {P : Program} {n : Nat} {M : Me} {ρ : Option Nat} {ds : List Deferred} {Q : PostD} {t : Fr} {L : List Ck} {ops : Array Oper}
/-- the first operations by the walk's list, the others after it -/
def cutQ (K : Fr → List Ck → Prop) : Post
  | .normal, t, L => K t L
  | _, _, _ => False
theorem cut_n {K : Fr → List Ck → Prop} (h : K t L) : cutQ K .normal t L := h
theorem Mem.newObj {w : World} (h : Mem M L w) (o : Obj) : Mem M (.obj w.heap.size o :: L) (w.alloc o) := by
  have hold : ∀ b, b < w.heap.size → (w.alloc o).heap[b]? = w.heap[b]? := fun b hb => Below.heap_alloc w _ b hb
  refine ⟨⟨h.keep.os, h.keep.tape, h.keep.output, Nat.le_trans h.keep.size (by simp), fun k hk hd => (hold k (Nat.lt_of_lt_of_le hk h.keep.size)).trans (h.keep.block k hk hd)⟩, ?_, ?_, ?_⟩
  · intro c hc
    rcases List.mem_cons.1 hc with rfl | hc
    · exact World.alloc_heap_new w o
    · exact Ck.stay (by simp) (fun b hb => hold b (Ck.lt (h.all c hc) hb)) (h.all c hc)
  · intro c hc hm b hb
    rcases List.mem_cons.1 hc with rfl | hc
    · cases hb; exact .inr h.keep.size
    · exact h.out c hc hm b hb
  · refine List.Pairwise.cons (fun c hc _ b hb hb' => ?_) h.sep
    cases hb
    exact Nat.lt_irrefl _ (Ck.lt (h.all c hc) hb')
theorem Gives.sub {L L' : List Ck} (h : L'.Sublist L) : Gives L L' := fun _ _ hm => ⟨hm.keep, fun x hx => hm.all x (h.subset hx), fun x hx => hm.out x (h.subset hx), hm.sep.sublist h⟩
theorem Gives.perm {L L' : List Ck} (h : L.Perm L') : Gives L L' := fun _ _ hm => ⟨hm.keep, fun x hx => hm.all x (h.mem_iff.2 hx), fun x hx => hm.out x (h.mem_iff.2 hx), (h.pairwise_iff (fun hab => Ck.Apart.symm hab)).1 hm.sep⟩
/-- some of the first ones, in whatever order; the others stay -/
theorem Gives.pre (L1 : List Ck) {L1' T : List Ck} (ks : List Nat) (hn : ks.Nodup) (hlt : ks.all (fun k => Nat.blt k L1.length) = true) (he : pickL L1 ks = L1') : Gives (L1 ++ T) (L1' ++ T) := fun M w hm => by
  have hks : ∀ k ∈ ks, k < L1.length := fun k hk => Nat.le_of_ble_eq_true (List.all_eq_true.1 hlt k hk)
  have hp := hm.pick (ks ++ List.range' L1.length T.length) (by
    rw [List.nodup_append]
    refine ⟨hn, List.nodup_range', fun a ha b hb hab => ?_⟩
    rw [List.mem_range'_1] at hb
    have := hks a ha
    omega)
  have e : pickL (L1 ++ T) (ks ++ List.range' L1.length T.length) = L1' ++ T := by
    unfold pickL at he ⊢
    rw [List.filterMap_append, ← he]
    congr 1
    · have h3 : ∀ ks : List Nat, (∀ k ∈ ks, k < L1.length) → ks.filterMap (fun x => (L1 ++ T)[x]?) = ks.filterMap (fun x => L1[x]?) := by
        intro ks
        induction ks with
        | nil => intro _; rfl
        | cons k ks ih =>
          intro h
          rw [List.filterMap_cons, List.filterMap_cons, List.getElem?_append_left (h k (List.mem_cons_self ..)), ih fun x hx => h x (List.mem_cons_of_mem _ hx)]
      exact h3 ks hks
    · apply List.ext_getElem?
      intro j
      have : (List.range' L1.length T.length).filterMap (fun x => (L1 ++ T)[x]?) = T := by
        have h2 : ∀ (m : Nat) (T : List Ck) (f : Nat → Option Ck), (∀ i, i < T.length → f (m + i) = T[i]?) → (List.range' m T.length).filterMap f = T := by
          intro m T
          induction T generalizing m with
          | nil => intro f _; rfl
          | cons x T ih =>
            intro f hf
            have h0 := hf 0 (by simp)
            rw [List.length_cons, List.range'_succ, List.filterMap_cons]
            simp only [Nat.add_zero] at h0
            rw [h0]
            simp only [List.getElem?_cons_zero]
            rw [ih (m + 1) f (fun i hi => by have := hf (i + 1) (by simp; omega); rw [show m + 1 + i = m + (i + 1) by omega, this]; simp)]
        exact h2 _ T _ fun i _ => by rw [List.getElem?_append_right (by omega)]; congr 1; omega
      rw [this]
  rwa [e] at hp
/-- a call, over chunks of which the last ones are told by a term -/
theorem k_callT {s : Way} {i : Nat} {rest : List Oper} {Q : Post} {d : Nat} {dst : Option Tmp} {ty : TypeId} {pos : String} {after : Array Edge} {guard : Option (Nat × Bool)} {p : Option Bool} {fx : Operand} {xs : Array Operand} {ts : Array TypeId} {f : FuncId} {first captured : Array Value} {vs args : List Value} {Lin : List Ck} {D : List Nat} {post : Value → List Ck → Prop}
    (h : Fn P f args Lin D post) (L0 T : List Ck) (hL : L = L0 ++ T) (ki k1 k2 : List Nat) {L1 L2 : List Ck} (hl : s.loud i = true) (hg : gOf ops t ⟨dst, .call ⟨.value fx, xs, ts⟩, ty, pos, after, guard⟩ = some p) (hp : cb p = true) (hd : dst = some d) (hn : Nat.blt d n = true) (hx : o1 t fx = some (.func (.func f) first captured)) (hxs : o1s t xs.toList = some vs) (hargs : first.toList ++ vs ++ captured.toList = args)
    (hk : ∀ v Lo, post v Lo → LX P n M ops s (i + 1) rest Q ((d, none, v) :: t) (Lo ++ (L2 ++ T)))
    (hi : pickL L ki = Lin := by exact rfl) (e1 : pickL L0 k1 = L1 := by first | (dsimp only [pickL, List.filterMap_cons, List.filterMap_nil, List.getElem?_cons_zero, List.getElem?_cons_succ, List.cons_append, List.nil_append, List.set_cons_zero, List.set_cons_succ]; done) | (dsimp only [pickL, List.filterMap_cons, List.filterMap_nil, List.getElem?_cons_zero, List.getElem?_cons_succ, List.cons_append, List.nil_append, List.set_cons_zero, List.set_cons_succ]; exact rfl) | exact rfl) (e2 : pickL L0 k2 = L2 := by first | (dsimp only [pickL, List.filterMap_cons, List.filterMap_nil, List.getElem?_cons_zero, List.getElem?_cons_succ, List.cons_append, List.nil_append, List.set_cons_zero, List.set_cons_succ]; done) | (dsimp only [pickL, List.filterMap_cons, List.filterMap_nil, List.getElem?_cons_zero, List.getElem?_cons_succ, List.cons_append, List.nil_append, List.set_cons_zero, List.set_cons_succ]; exact rfl) | exact rfl) (hni : ki.Nodup := by decide) (hnn : (k1 ++ k2).Nodup := by decide) (hlt : (k1 ++ k2).all (fun k => Nat.blt k L0.length) = true := by exact rfl)
    (hin : AllD D Lin := by first | (simp [AllD]; done) | exact ⟨fun _ hb => Option.mem_toList.2 hb, trivial⟩) (hD : ∀ b ∈ D, ∃ c ∈ L1, c.mut_ = true ∧ c.on b := by first | (simp [Ck.mut_, Ck.on]; done) | exact fun _ hb => ⟨Ck.own _ _ _ _ _ _, List.mem_cons_self .., rfl, Option.mem_toList.1 hb⟩) (hgs : ∀ Lo, s.gives L → s.gives (Lo ++ (L2 ++ T)) := by exact fun _ _ => trivial) :
    LX P n M ops s i (⟨dst, .call ⟨.value fx, xs, ts⟩, ty, pos, after, guard⟩ :: rest) Q t L :=
  lx_call h L1 (L2 ++ T) (by
    rw [hL, ← List.append_assoc]
    refine Gives.pre L0 (k1 ++ k2) hnn hlt ?_
    rw [← e1, ← e2]
    exact List.filterMap_append ..) (fun _ hm => hm.enter ki hni hi hin.spec) hD hgs hl hg hp hd hn hx hxs hargs hk
end
end Go.Proofs.YtmochicneilhhaaGreat
namespace Go.Proofs.YtmochicneilhhaaGreat
open Go.RowKit
/-- a kind of numbers without sign, of so many digits -/
structure UK (k : IntKind) (w : Nat) : Prop where
  bits : k.bits = w
  wrap : ∀ n : Int, k.wrap n = n % ((2 ^ w : Nat) : Int)
theorem uk8 : UK .u8 8 := ⟨rfl, fun n => IntKind.wrap_u8 n⟩
theorem uk16 : UK .u16 16 := ⟨rfl, fun n => IntKind.wrap_u16 n⟩
theorem uk32 : UK .u32 32 := ⟨rfl, fun n => IntKind.wrap_u32 n⟩
theorem uk64 : UK .u64 64 := ⟨rfl, fun n => IntKind.wrap_u64 n⟩
theorem UK.of {k : IntKind} {w : Nat} (u : UK k w) (x : BitVec w) : k.wrap (x.toNat : Int) = (x.toNat : Int) := by
  rw [u.wrap, ← Int.natCast_emod, Nat.mod_eq_of_lt x.isLt]
theorem UK.int {k : IntKind} {w : Nat} (u : UK k w) (n : Int) : k.wrap n = ((BitVec.ofInt w n).toNat : Int) := by
  rw [u.wrap, BitVec.toNat_ofInt, Int.toNat_of_nonneg (Int.emod_nonneg _ (by have := Nat.two_pow_pos w; omega))]
theorem ofInt_nat (w n : Nat) : BitVec.ofInt w (n : Int) = BitVec.ofNat w n := by
  apply BitVec.eq_of_toNat_eq
  rw [BitVec.toNat_ofInt, BitVec.toNat_ofNat, ← Int.natCast_emod, Int.toNat_natCast]
theorem ofInt_toNat {w : Nat} (x : BitVec w) : BitVec.ofInt w (x.toNat : Int) = x := by rw [ofInt_nat, BitVec.ofNat_toNat, BitVec.setWidth_eq]
section
variable {P : Program} {n : Nat} {M : Me} {Q : Post} {t : Fr} {L : List Ck} {k : IntKind} {w : Nat} {p c1 c2 : Option Bool} {dst : Option Tmp} {T T' S : TypeId} {X Y : Operand} {ty : TypeId} {pos : String} {after : Array Edge} {guard : Option (Nat × Bool)} {a b : Int}
theorem yl_bits {op : BinOp} {f : ∀ {w}, BitVec w → BitVec w → BitVec w} (ho : ∀ (k : IntKind) (a b : Int), evInt op k a b = some (.int k (k.wrap ((f (BitVec.ofInt k.bits a) (BitVec.ofInt k.bits b)).toNat : Int)))) (u : UK k w) (x y : BitVec w) (hx : ov t X = some (c1, .int k a)) (hy : ov t Y = some (c2, .int k b)) (ha : a = x.toNat) (hb : b = y.toNat)
    (h1 : cb p = true → cb c1 = true) (h2 : cb p = true → cb c2 = true) : Yl P n t L p ⟨dst, .binOp op T X Y T', ty, pos, after, guard⟩ (.int k (f x y).toNat) := fun hp M a' w' hf _ => by
  unfold execOp
  refine run_v ?_
  rw [hf.ov hx (h1 hp), hf.ov hy (h2 hp)]
  obtain rfl := u.bits
  have := ho k a b
  rw [ha, hb, ofInt_toNat, ofInt_toNat, u.of] at this
  subst ha hb
  simp [eqGuard_ok, evInt_ok this]
theorem yl_xor (u : UK k w) (x y : BitVec w) (hx : ov t X = some (c1, .int k a)) (hy : ov t Y = some (c2, .int k b)) (ha : a = x.toNat) (hb : b = y.toNat) (h1 : cb p = true → cb c1 = true) (h2 : cb p = true → cb c2 = true) :
    Yl P n t L p ⟨dst, .binOp .xor T X Y T', ty, pos, after, guard⟩ (.int k (x ^^^ y).toNat) := yl_bits (f := fun x y => x ^^^ y) (fun _ _ _ => rfl) u x y hx hy ha hb h1 h2
theorem yl_band (u : UK k w) (x y : BitVec w) (hx : ov t X = some (c1, .int k a)) (hy : ov t Y = some (c2, .int k b)) (ha : a = x.toNat) (hb : b = y.toNat) (h1 : cb p = true → cb c1 = true) (h2 : cb p = true → cb c2 = true) :
    Yl P n t L p ⟨dst, .binOp .and T X Y T', ty, pos, after, guard⟩ (.int k (x &&& y).toNat) := yl_bits (f := fun x y => x &&& y) (fun _ _ _ => rfl) u x y hx hy ha hb h1 h2
theorem yl_bor (u : UK k w) (x y : BitVec w) (hx : ov t X = some (c1, .int k a)) (hy : ov t Y = some (c2, .int k b)) (ha : a = x.toNat) (hb : b = y.toNat) (h1 : cb p = true → cb c1 = true) (h2 : cb p = true → cb c2 = true) :
    Yl P n t L p ⟨dst, .binOp .or T X Y T', ty, pos, after, guard⟩ (.int k (x ||| y).toNat) := yl_bits (f := fun x y => x ||| y) (fun _ _ _ => rfl) u x y hx hy ha hb h1 h2
theorem yl_arithB {op : BinOp} {e : Int} (z : BitVec w) (u : UK k w) (hx : ov t X = some (c1, .int k a)) (hy : ov t Y = some (c2, .int k b)) (ho : evInt op k a b = some (.int k (k.wrap e))) (he : BitVec.ofInt w e = z)
    (h1 : cb p = true → cb c1 = true) (h2 : cb p = true → cb c2 = true) : Yl P n t L p ⟨dst, .binOp op T X Y T', ty, pos, after, guard⟩ (.int k z.toNat) := fun hp M a' w' hf _ => by
  unfold execOp
  refine run_v ?_
  rw [hf.ov hx (h1 hp), hf.ov hy (h2 hp)]
  rw [u.int, he] at ho
  simp [eqGuard_ok, evInt_ok ho]
theorem yl_badd (u : UK k w) (x y : BitVec w) (hx : ov t X = some (c1, .int k a)) (hy : ov t Y = some (c2, .int k b)) (ha : a = x.toNat) (hb : b = y.toNat) (h1 : cb p = true → cb c1 = true) (h2 : cb p = true → cb c2 = true) :
    Yl P n t L p ⟨dst, .binOp .add T X Y T', ty, pos, after, guard⟩ (.int k (x + y).toNat) := yl_arithB (e := a + b) _ u hx hy rfl (by rw [ha, hb, BitVec.ofInt_add, ofInt_toNat, ofInt_toNat]) h1 h2
theorem yl_bsub (u : UK k w) (x y : BitVec w) (hx : ov t X = some (c1, .int k a)) (hy : ov t Y = some (c2, .int k b)) (ha : a = x.toNat) (hb : b = y.toNat) (h1 : cb p = true → cb c1 = true) (h2 : cb p = true → cb c2 = true) :
    Yl P n t L p ⟨dst, .binOp .sub T X Y T', ty, pos, after, guard⟩ (.int k (x - y).toNat) := yl_arithB (e := a - b) _ u hx hy rfl (by
      rw [ha, hb, Int.sub_eq_add_neg, BitVec.ofInt_add, BitVec.ofInt_neg, ofInt_toNat, ofInt_toNat, BitVec.sub_eq_add_neg]) h1 h2
theorem yl_bmul (u : UK k w) (x y : BitVec w) (hx : ov t X = some (c1, .int k a)) (hy : ov t Y = some (c2, .int k b)) (ha : a = x.toNat) (hb : b = y.toNat) (h1 : cb p = true → cb c1 = true) (h2 : cb p = true → cb c2 = true) :
    Yl P n t L p ⟨dst, .binOp .mul T X Y T', ty, pos, after, guard⟩ (.int k (x * y).toNat) := yl_arithB (e := a * b) _ u hx hy rfl (by rw [ha, hb, BitVec.ofInt_mul, ofInt_toNat, ofInt_toNat]) h1 h2
theorem yl_bquo (u : UK k w) (x y : BitVec w) (hx : ov t X = some (c1, .int k a)) (hy : ov t Y = some (c2, .int k b)) (ha : a = x.toNat) (hb : b = y.toNat) (h1 : cb p = true → cb c1 = true) (h2 : cb p = true → cb c2 = true) (h0 : cb p = true → y.toNat ≠ 0) :
    Yl P n t L p ⟨dst, .binOp .quo T X Y T', ty, pos, after, guard⟩ (.int k (x / y).toNat) := by
  refine yl_eq (yl_quo hx hy h1 h2 fun hp => by have := h0 hp; omega) fun hp => ?_
  rw [ha, hb, Int.tdiv_eq_ediv_of_nonneg (by omega), ← Int.natCast_ediv, ← BitVec.toNat_udiv, u.of]
theorem yl_brem (_u : UK k w) (x y : BitVec w) (hx : ov t X = some (c1, .int k a)) (hy : ov t Y = some (c2, .int k b)) (ha : a = x.toNat) (hb : b = y.toNat) (h1 : cb p = true → cb c1 = true) (h2 : cb p = true → cb c2 = true) (h0 : cb p = true → y.toNat ≠ 0) :
    Yl P n t L p ⟨dst, .binOp .rem T X Y T', ty, pos, after, guard⟩ (.int k (x % y).toNat) := by
  refine yl_eq (yl_rem hx hy h1 h2 fun hp => by have := h0 hp; omega) fun hp => ?_
  rw [ha, hb, Int.tmod_eq_emod_of_nonneg (by omega), ← Int.natCast_emod, ← BitVec.toNat_umod]
theorem yl_shiftB {left : Bool} {κ : IntKind} (z : BitVec w) (q : Nat) (hx : ov t X = some (c1, .int k a)) (hy : ov t Y = some (c2, .int κ b)) (hb : b = q)
    (hz : (match left with | true => k.wrap (a * 2 ^ min q k.bits) | false => a.fdiv (2 ^ min q k.bits)) = (z.toNat : Int)) (h1 : cb p = true → cb c1 = true) (h2 : cb p = true → cb c2 = true) :
    Yl P n t L p ⟨dst, .binOp (match left with | true => .shl | false => .shr) T X Y T', ty, pos, after, guard⟩ (.int k z.toNat) := fun hp M a' w' hf _ => by
  unfold execOp
  refine run_v ?_
  rw [hf.ov hx (h1 hp), hf.ov hy (h2 hp)]
  subst hb
  have hb' : ¬ ((q : Int) < 0) := by omega
  cases left <;> simp only [] at hz ⊢ <;> simp [eqGuard, binOp, Op.shift, hb', ← hz]
theorem yl_bshr {κ : IntKind} (u : UK k w) (x : BitVec w) (q : Nat) (hx : ov t X = some (c1, .int k a)) (hy : ov t Y = some (c2, .int κ b)) (ha : a = x.toNat) (hb : b = q) (h1 : cb p = true → cb c1 = true) (h2 : cb p = true → cb c2 = true) :
    Yl P n t L p ⟨dst, .binOp .shr T X Y T', ty, pos, after, guard⟩ (.int k (x >>> q).toNat) := yl_shiftB (left := false) _ q hx hy hb (by
      show a.fdiv (2 ^ min q k.bits) = _
      rw [ha, u.bits, BitVec.toNat_ushiftRight, Nat.shiftRight_eq_div_pow, Int.fdiv_eq_ediv_of_nonneg _ (by have := Nat.two_pow_pos (min q w); exact_mod_cast Nat.zero_le _)]
      rcases Nat.lt_or_ge q w with h | h
      · rw [Nat.min_eq_left (by omega)]
        exact_mod_cast rfl
      · rw [Nat.min_eq_right h]
        have h3 : x.toNat / 2 ^ q = 0 := Nat.div_eq_of_lt (Nat.lt_of_lt_of_le x.isLt (Nat.pow_le_pow_right (by decide) h))
        have h4 : x.toNat / 2 ^ w = 0 := Nat.div_eq_of_lt x.isLt
        rw [h3]
        exact_mod_cast h4) h1 h2
theorem yl_bshl {κ : IntKind} (u : UK k w) (x : BitVec w) (q : Nat) (hx : ov t X = some (c1, .int k a)) (hy : ov t Y = some (c2, .int κ b)) (ha : a = x.toNat) (hb : b = q) (h1 : cb p = true → cb c1 = true) (h2 : cb p = true → cb c2 = true) :
    Yl P n t L p ⟨dst, .binOp .shl T X Y T', ty, pos, after, guard⟩ (.int k (x <<< q).toNat) := yl_shiftB (left := true) _ q hx hy hb (by
      show k.wrap (a * 2 ^ min q k.bits) = _
      rw [ha, u.bits, u.wrap, BitVec.toNat_shiftLeft, Nat.shiftLeft_eq]
      rcases Nat.lt_or_ge q w with h | h
      · rw [Nat.min_eq_left (by omega)]
        exact_mod_cast rfl
      · rw [Nat.min_eq_right h]
        have h3 : x.toNat * 2 ^ q % 2 ^ w = 0 := by
          rw [show q = w + (q - w) by omega, Nat.pow_add, Nat.mul_left_comm, Nat.mul_mod_right]
        have h4 : x.toNat * 2 ^ w % 2 ^ w = 0 := Nat.mul_mod_left ..
        rw [h3]
        exact_mod_cast h4) h1 h2
/-- a number of another kind, without sign -/
theorem yl_cv {E : Env P} {k' : IntKind} {w' : Nat} {i : TyI} (u : UK k' w') (x : BitVec w) (hx : ov t X = some (c1, .int k a)) (ha : a = x.toNat) (hS : E.f S = some i) (hT : tyOf E.f T = .int k') (h1 : cb p = true → cb c1 = true) :
    Yl P n t L p ⟨dst, .convert S T X, ty, pos, after, guard⟩ (.int k' (x.setWidth w').toNat) := fun hp M a' w0 hf _ => by
  have hz : k'.wrap a = ((x.setWidth w').toNat : Int) := by
    rw [ha, u.wrap, BitVec.toNat_setWidth]
    exact_mod_cast rfl
  obtain ⟨_, _, _, hS'⟩ := E.und hS
  have hu := run_underlying (tyOf_int hT) w0
  unfold execOp
  refine run_v ?_
  rw [hf.ov hx (h1 hp)]
  unfold convert
  simp [hS', hu, Conv.intToInt, hz]
/-- any number, as one without sign -/
theorem yl_ci {E : Env P} {k' : IntKind} {w' : Nat} {i : TyI} (u : UK k' w') (hx : ov t X = some (c1, .int k a)) (hS : E.f S = some i) (hT : tyOf E.f T = .int k') (h1 : cb p = true → cb c1 = true) :
    Yl P n t L p ⟨dst, .convert S T X, ty, pos, after, guard⟩ (.int k' (BitVec.ofInt w' a).toNat) := fun hp M a' w0 hf _ => by
  obtain ⟨_, _, _, hS'⟩ := E.und hS
  have hu := run_underlying (tyOf_int hT) w0
  unfold execOp
  refine run_v ?_
  rw [hf.ov hx (h1 hp)]
  unfold convert
  simp [hS', hu, Conv.intToInt, u.int]
/-- 64 digits, with a sign -/
theorem yl_cs {E : Env P} {i : TyI} (x : BitVec 64) (hx : ov t X = some (c1, .int k a)) (ha : a = x.toNat) (hS : E.f S = some i) (hT : tyOf E.f T = .int .i64) (h1 : cb p = true → cb c1 = true) :
    Yl P n t L p ⟨dst, .convert S T X, ty, pos, after, guard⟩ (.int .i64 x.toInt) := fun hp M a' w0 hf _ => by
  obtain ⟨_, _, _, hS'⟩ := E.und hS
  have hu := run_underlying (tyOf_int hT) w0
  have hz : IntKind.i64.wrap a = x.toInt := by
    rw [ha, IntKind.wrap_i64, BitVec.toInt_eq_toNat_cond]
    have := x.isLt
    split <;> omega
  unfold execOp
  refine run_v ?_
  rw [hf.ov hx (h1 hp)]
  unfold convert
  simp [hS', hu, Conv.intToInt, hz]
/-- a number that fits, as one of 64 digits with a sign -/
theorem yl_cn {E : Env P} {i : TyI} (hx : ov t X = some (c1, .int k a)) (hS : E.f S = some i) (hT : tyOf E.f T = .int .i64) (h1 : cb p = true → cb c1 = true) (hb : cb p = true → -9223372036854775808 ≤ a ∧ a < 9223372036854775808) :
    Yl P n t L p ⟨dst, .convert S T X, ty, pos, after, guard⟩ (.int .i64 a) := fun hp M a' w0 hf _ => by
  obtain ⟨_, _, _, hS'⟩ := E.und hS
  have hu := run_underlying (tyOf_int hT) w0
  have hz : IntKind.i64.wrap a = a := by
    have := hb hp
    rw [IntKind.wrap_i64]
    omega
  unfold execOp
  refine run_v ?_
  rw [hf.ov hx (h1 hp)]
  unfold convert
  simp [hS', hu, Conv.intToInt, hz]
/-- two numbers compared -/
theorem yl_beq (x y : BitVec w) (hx : ov t X = some (c1, .int k a)) (hy : ov t Y = some (c2, .int k b)) (ha : a = x.toNat) (hb : b = y.toNat) (h1 : cb p = true → cb c1 = true) (h2 : cb p = true → cb c2 = true) :
    Yl P n t L p ⟨dst, .binOp .eql T X Y T', ty, pos, after, guard⟩ (.bool (x == y)) := fun hp M a' w' hf _ => by
  have : (a == b) = (x == y) := by
    rw [ha, hb, Bool.eq_iff_iff]
    simp only [beq_iff_eq]
    exact ⟨fun h => BitVec.eq_of_toNat_eq (by omega), fun h => by rw [h]⟩
  unfold execOp
  refine run_v ?_
  rw [hf.ov hx (h1 hp), hf.ov hy (h2 hp)]
  have he := evInt_ok (P := P) (op := .eql) (k := k) (a := a) (b := b) rfl T w'
  rw [this] at he
  simp [eqGuard_ok, he]
theorem yl_bne (x y : BitVec w) (hx : ov t X = some (c1, .int k a)) (hy : ov t Y = some (c2, .int k b)) (ha : a = x.toNat) (hb : b = y.toNat) (h1 : cb p = true → cb c1 = true) (h2 : cb p = true → cb c2 = true) :
    Yl P n t L p ⟨dst, .binOp .neq T X Y T', ty, pos, after, guard⟩ (.bool (x != y)) := fun hp M a' w' hf _ => by
  have : (a != b) = (x != y) := by
    rw [ha, hb, Bool.eq_iff_iff]
    simp only [bne_iff_ne, ne_eq]
    exact ⟨fun h he => h (by rw [he]), fun h he => h (BitVec.eq_of_toNat_eq (by omega))⟩
  unfold execOp
  refine run_v ?_
  rw [hf.ov hx (h1 hp), hf.ov hy (h2 hp)]
  have he := evInt_ok (P := P) (op := .neq) (k := k) (a := a) (b := b) rfl T w'
  rw [this] at he
  simp [eqGuard_ok, he]
end
end Go.Proofs.YtmochicneilhhaaGreat
