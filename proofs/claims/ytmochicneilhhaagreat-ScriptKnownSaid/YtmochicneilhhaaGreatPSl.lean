/- What functions are said to do, and the walk's steps at loads, stores and calls. The walk's steps at slices and composite literals. -/
import Derived.Test.YtmochicneilhhaaGreatPEx
import Derived.Laws.Cells
import Derived.Great.BuildSlice
namespace Go.Proofs.YtmochicneilhhaaGreat
open Go.RowKit

/-- a call of f comes to f's own text -/
def Goes (P : Program) (f : FuncId) : Prop := ∀ args w, (callFunc f args).run P w = .ok (.enter f args) w
theorem goes_of {P : Program} {f : FuncId} {fn : Func} (hf : P.funcs[f]? = some fn) (hn : (fn.name == "runtime.NumGoroutine") = false) (hb : fn.body.isNone = false) : Goes P f := fun args w => by
  unfold callFunc
  simp only [Sem.run_bind, run_program, Result.andThen_ok, hf, hn, hb]
  simp

/-- Called with these values, in a memory that has these chunks, f returns; at most the blocks of D have changed; the value and the chunks are as told. -/
def Fn (P : Program) (f : FuncId) (args : List Value) (Lin : List Ck) (D : List Nat) (post : Value → List Ck → Prop) : Prop :=
  Goes P f ∧ ∀ w, Mem ⟨w, D⟩ Lin w → Calls P f args.toArray w fun e w' => ∃ v Lo, e = .returned v ∧ post v Lo ∧ Mem ⟨w, D⟩ Lo w' ∧ Lo.all Ck.mut_ = true
theorem Fn.mono {P : Program} {f : FuncId} {args : List Value} {Lin : List Ck} {D : List Nat} {post post' : Value → List Ck → Prop} (h : Fn P f args Lin D post) (hp : ∀ v Lo, post v Lo → post' v Lo) : Fn P f args Lin D post' :=
  ⟨h.1, fun w hm => (h.2 w hm).mono fun _ _ ⟨v, Lo, he, hq, hr⟩ => ⟨v, Lo, he, hp v Lo hq, hr⟩⟩
def argsFr : Nat → List Value → Fr
  | _, [] => []
  | k, v :: vs => (k, none, v) :: argsFr (k + 1) vs
def RetIs (P : Program) (fn : Func) (t : Fr) (L : List Ck) (v : Value) : Prop := ∀ n M a w, Frm n t a → Mem M L w → (results fn a.tmps).run P w = .ok v w
def bodyQ (P : Program) (fn : Func) (post : Value → List Ck → Prop) : Post
  | .exit _, _, _ => False
  | _, t, L => ∃ v, RetIs P fn t L v ∧ ∃ Lo, Gives L Lo ∧ Lo.all Ck.mut_ = true ∧ post v Lo

section
variable {P : Program} {n : Nat} {M : Me} {Q : Post} {t : Fr} {L : List Ck} {ops : Array Oper} {s : Way} {i : Nat} {rest : List Oper}

theorem lk_args : ∀ (args : List Value) (k d : Nat) (c : Option Bool) (v : Value), lk (argsFr k args) d = some (c, v) → c = none ∧ k ≤ d ∧ args[d - k]? = some v
  | [], _, _, _, _, h => by cases h
  | x :: xs, k, d, c, v, h => by
    by_cases hkd : k = d
    · subst hkd
      simp only [argsFr, lk_cons_self, Option.some.injEq, Prod.mk.injEq] at h
      simp [h.1.symm, h.2]
    · rw [argsFr, lk_cons_ne hkd] at h
      obtain ⟨h1, h2, h3⟩ := lk_args xs (k + 1) d c v h
      refine ⟨h1, by omega, ?_⟩
      rw [show d - k = (d - (k + 1)) + 1 by omega]
      simpa using h3
theorem fn_enter {f : FuncId} {fn : Func} {c : Code} {args : List Value} {Lin : List Ck} {D : List Nat} {post : Value → List Ck → Prop} (hf : P.funcs[f]? = some fn) (hb : fn.body = some c) (hn : fn.ntmps = n) (hname : (fn.name == "runtime.NumGoroutine") = false) (hle : Nat.ble args.length n = true)
    (h : ∀ w0, CX P n ⟨w0, D⟩ c (bodyQ P fn post) (argsFr 0 args) Lin) : Fn P f args Lin D post := by
  refine ⟨goes_of hf hname (by rw [hb]; rfl), fun w hm => calls_of_wp hf hb (wp_mono (h w _ w ?_ hm) fun e a w' hq => ?_)⟩
  · refine ⟨rfl, by have := Nat.le_of_ble_eq_true hle; simp [hn]; omega, fun d c v hd => ?_⟩
    obtain ⟨rfl, _, hv⟩ := lk_args args 0 d c v hd
    simp only [Nat.sub_zero] at hv
    have hlt : d < args.length := (List.getElem?_eq_some_iff.1 hv).1
    have : (args.toArray ++ Array.replicate (fn.ntmps - args.toArray.size) undef)[d]? = args.toArray[d]? := Array.getElem?_append_left (by simpa using hlt)
    rw [this]
    simpa [cb] using hv
  · have key : ∀ t L, Frm n t a → Mem ⟨w, D⟩ L w' → (∃ v, RetIs P fn t L v ∧ ∃ Lo, Gives L Lo ∧ Lo.all Ck.mut_ = true ∧ post v Lo) →
        a.defers = [] ∧ ∃ v, (results fn a.tmps).run P w' = .ok v w' ∧ ∃ v' Lo, Ending.returned v = .returned v' ∧ post v' Lo ∧ Mem ⟨w, D⟩ Lo w' ∧ Lo.all Ck.mut_ = true := by
      rintro t L hf hm ⟨v, hr, Lo, hg, hmu, hp⟩
      exact ⟨hf.defers, v, hr n _ a w' hf hm, v, Lo, rfl, hp, hg _ _ hm, hmu⟩
    cases e <;> first
      | exact hq.elim
      | exact (let ⟨t, L, hf, hm, hq⟩ := hq; key t L hf hm hq)
      | exact (let ⟨_, _, _, _, hq⟩ := hq; hq.elim)

theorem Frm.tmpq {a : Act} (h : Frm n t a) {d : Nat} {v : Value} (hk : lk t d = some (none, v)) : a.tmps[d]?.getD undef = v := by
  rw [h.slot d none v hk]
  rfl
theorem ret_tmp {fn : Func} {d : Nat} {v : Value} (hr : fn.results = #[.tmp d]) (hd : lk t d = some (none, v)) : RetIs P fn t L v := fun n M a w hf hm => by
  rw [results_tmp hr]
  rw [hf.tmp hd]
  rfl
theorem ret_none {fn : Func} (hr : fn.results = #[]) : RetIs P fn t L (.tuple #[]) := fun _ _ _ _ _ _ => results_none hr _ _ _
theorem ret_tmp2 {fn : Func} {d e : Nat} {v u : Value} (hr : fn.results = #[.tmp d, .tmp e]) (hd : lk t d = some (none, v)) (he : lk t e = some (none, u)) : RetIs P fn t L (.tuple #[v, u]) := fun n M a w hf hm => by
  rw [results_tmp2 hr, hf.tmp hd, hf.tmp he]
  rfl

theorem Mem.loadVar {E : Env P} {w : World} {k b off : Nat} {cs : List Value} {T T' : TypeId} {j : TyI} {v : Value} (hm : Mem M L w) (hT : E.f T = some j) (hk : L[k]? = some (.blk b cs T')) (hv : evPart E.f T cs off = some v)
    (hin : isAggD j.desc = true → off + j.size ≤ cs.length) : (loadVar T ⟨b, off, none⟩).run P w = .ok v w := by
  have hu := isAgg_run hT w
  have hs := E.size hT w
  unfold evPart at hv
  simp only [hT] at hv
  unfold Go.loadVar
  cases ha : isAggD j.desc
  · simp only [ha] at hv hu
    have hc := hm.cell hk hv
    simp [hu, load, Sem.run, hc]
  · simp only [ha] at hv hin hu
    cases hv
    have hl : (List.take j.size (List.drop off cs)).length = j.size := by have := hin trivial; simp at this ⊢; omega
    have hcells := run_loadCells_list (P := P) w ⟨b, off, none⟩ (List.take j.size (List.drop off cs)) (fun q u hu => by
      rw [List.getElem?_take] at hu
      split at hu
      · rw [List.getElem?_drop] at hu
        have := hm.cell (off := off + q) hk hu
        unfold Addr.add
        split
        · rename_i h0; subst h0; simpa using this
        · exact this
      · cases hu)
    rw [hl] at hcells
    simp [hu, hs, hcells]
theorem yl_load {E : Env P} {p c : Option Bool} {dst : Option Tmp} {T : TypeId} {x : Operand} {ty : TypeId} {pos : String} {after : Array Edge} {guard : Option (Nat × Bool)} {b off : Nat} {v : Value} (k : Nat) {cs : List Value} {T' : TypeId} {j : TyI} (hx : ov t x = some (c, .pointer (some ⟨b, off, none⟩))) (hT : E.f T = some j) (hk : L[k]? = some (.blk b cs T'))
    (hin : Nat.ble (off + j.size) cs.length = true) (hv : evPart E.f T cs off = some v) (hc : cb p = true → cb c = true) : Yl P n t L p ⟨dst, .load T x, ty, pos, after, guard⟩ v := fun hp M a w hf hm => by
  unfold execOp
  refine run_v ?_
  rw [hf.ov hx (hc hp)]
  simp [Instr.loadAt, Instr.sureAddr, hm.loadVar hT hk hv (fun _ => Nat.le_of_ble_eq_true hin)]
theorem bq_ret {fn : Func} {post : Value → List Ck → Prop} {v : Value} (h1 : RetIs P fn t L v) (Lo : List Ck) (h2 : Gives L Lo) (h3 : Lo.all Ck.mut_ = true) (h4 : post v Lo) : bodyQ P fn post .ret t L := ⟨v, h1, Lo, h2, h3, h4⟩
theorem bq_end {fn : Func} {post : Value → List Ck → Prop} {v : Value} (h1 : RetIs P fn t L v) (Lo : List Ck) (h2 : Gives L Lo) (h3 : Lo.all Ck.mut_ = true) (h4 : post v Lo) : bodyQ P fn post .normal t L := ⟨v, h1, Lo, h2, h3, h4⟩
theorem ret_cell {E : Env P} {fn : Func} {d b off : Nat} {T T' : TypeId} {v : Value} (k : Nat) {cs : List Value} {j : TyI} (hr : fn.results = #[.cell d T]) (hd : lk t d = some (none, .pointer (some ⟨b, off, none⟩))) (hT : E.f T = some j) (hk : L[k]? = some (.blk b cs T'))
    (hin : isAggD j.desc = true → off + j.size ≤ cs.length) (hv : evPart E.f T cs off = some v) : RetIs P fn t L v := fun n M a w hf hm => by
  have hd' := hf.tmpq hd
  simp [results, hr, hd', asAddr, hm.loadVar hT hk hv hin]
theorem ret_cell_tmp {E : Env P} {fn : Func} {d b off e : Nat} {T T' : TypeId} {v u : Value} (k : Nat) {cs : List Value} {j : TyI} (hr : fn.results = #[.cell d T, .tmp e]) (hd : lk t d = some (none, .pointer (some ⟨b, off, none⟩))) (he : lk t e = some (none, u)) (hT : E.f T = some j) (hk : L[k]? = some (.blk b cs T'))
    (hin : isAggD j.desc = true → off + j.size ≤ cs.length) (hv : evPart E.f T cs off = some v) : RetIs P fn t L (.tuple #[v, u]) := fun n M a w hf hm => by
  have hd' := hf.tmpq hd
  have he' := hf.tmpq he
  simp [results, hr, hd', he', asAddr, hm.loadVar hT hk hv hin]

/-- the list of cells, some of them written over -/
def setL : List Value → Nat → List Value → List Value
  | [], _, _ => []
  | c :: cs, off + 1, vs => c :: setL cs off vs
  | c :: cs, 0, [] => c :: cs
  | _ :: cs, 0, v :: vs => v :: setL cs 0 vs
theorem setL_eq : ∀ (cs : List Value) (off : Nat) (vs : List Value), off + vs.length ≤ cs.length → setL cs off vs = cs.take off ++ vs ++ cs.drop (off + vs.length)
  | [], off, vs, h => by
    simp at h
    simp [setL, h]
  | c :: cs, off + 1, vs, h => by
    rw [setL, setL_eq cs off vs (by simp at h; omega)]
    simp [Nat.add_right_comm]
  | c :: cs, 0, [], _ => by simp [setL]
  | c :: cs, 0, v :: vs, h => by
    rw [setL, setL_eq cs 0 vs (by simp at h ⊢; omega)]
    simp
theorem setL_length (cs : List Value) (off : Nat) (vs : List Value) (h : off + vs.length ≤ cs.length) : (setL cs off vs).length = cs.length := by
  rw [setL_eq cs off vs h]
  simp
  omega
theorem Mem.storeVar {E : Env P} {w : World} {k b off : Nat} {cs : List Value} {T T' : TypeId} {j : TyI} {v : Value} (hm : Mem M L w) (hT : E.f T = some j) (hk : L[k]? = some (.blk b cs T')) (hv : (cellsL v).length = j.size)
    (hfit : off + j.size ≤ cs.length) (h1 : (cellsL v).all Value.oneCell' = true) : ∃ w', (storeVar T ⟨b, off, none⟩ v).run P w = .ok () w' ∧ Mem M (L.set k (.blk b (setL cs off (cellsL v)) T')) w' := by
  have hs := E.size hT w
  have hg : w.heap[b]? = some (.cells cs.toArray T' (0, 0)) := hm.get hk
  have hrun := run_storeCells_at P b off T' (cellsL v) 0 cs.toArray w hg (by simp; omega) (fun u hu => List.all_eq_true.1 h1 u hu)
  have hsz : (w.setRow b (cs.toArray.toList.take (off + 0) ++ cellsL v ++ cs.toArray.toList.drop (off + 0 + (cellsL v).length)).toArray).heap.size = w.heap.size := by simp [World.setRow]
  refine ⟨w.setRow b (cs.toArray.toList.take (off + 0) ++ cellsL v ++ cs.toArray.toList.drop (off + 0 + (cellsL v).length)).toArray, ?_, hm.turn (c' := .blk b (setL cs off (cellsL v)) T') hk rfl (fun g hg => .inl hg) rfl rfl rfl (by rw [hsz]; exact Nat.le_refl _) (fun g _ hne => setRow_other _ _ _ _ (fun e => hne e.symm)) ?_⟩
  · unfold Go.storeVar
    simp only [cellsL_ok, List.size_toArray, Sem.run_bind, hs, Result.andThen_ok, hv, ne_eq, not_true_eq_false, if_false]
    simpa [hv] using hrun
  · rw [setL_eq _ _ _ (by omega)]
    have := setRow_heap w b cs.toArray (cs.toArray.toList.take (off + 0) ++ cellsL v ++ cs.toArray.toList.drop (off + 0 + (cellsL v).length)).toArray T' (0, 0) hg
    simpa [Ck.holds, Blk] using this
theorem lx_store {E : Env P} {T : TypeId} {x y : Operand} {ty : TypeId} {pos : String} {after : Array Edge} {guard : Option (Nat × Bool)} {b off : Nat} {v : Value} (k : Nat) {cs : List Value} {T' : TypeId} {j : TyI} (hl : s.loud i = true) {p : Option Bool} (hg : gOf ops t ⟨none, .store T x y, ty, pos, after, guard⟩ = some p) (hp : cb p = true)
    (hx : o1 t x = some (.pointer (some ⟨b, off, none⟩))) (hy : o1 t y = some v) (hT : E.f T = some j) (hk : L[k]? = some (.blk b cs T')) (hv : (cellsL v).length = j.size) (hfit : off + j.size ≤ cs.length) (h1 : (cellsL v).all Value.oneCell' = true)
    (hgs : s.gives L → s.gives (L.set k (.blk b (setL cs off (cellsL v)) T')))
    (h : LX P n M ops s (i + 1) rest Q t (L.set k (.blk b (setL cs off (cellsL v)) T'))) : LX P n M ops s i (⟨none, .store T x y, ty, pos, after, guard⟩ :: rest) Q t L :=
  lx_loud hl hg hp fun a w hf hm hs K hK => by
    obtain ⟨w', hr, hm'⟩ := hm.storeVar hT hk hv hfit h1
    unfold Oper.wp execOp
    simp only [hf.o1 hx, hf.o1 hy, Instr.storeAt, Instr.sureAddr, Sem.run_bind, Sem.run_pure, Result.andThen_ok, hr]
    exact hK _ _ _ _ hf hm' (hgs hs) h

/-- the arguments of a call: what the function value holds, then the operands -/
def o1s (t : Fr) : List Operand → Option (List Value)
  | [] => some []
  | x :: xs => match o1 t x with
    | some v => match o1s t xs with
      | some vs => some (v :: vs)
      | none => none
    | none => none
theorem o1s_eval {a : Act} (hf : Frm n t a) : ∀ {xs : List Operand} {vs : List Value}, o1s t xs = some vs → xs.map a.eval = vs
  | [], _, h => by cases h; rfl
  | x :: xs, _, h => by
    simp only [o1s] at h
    split at h
    · rename_i v hv
      split at h
      · rename_i vs hvs
        cases h
        simp [hf.o1 hv, o1s_eval hf hvs]
      · cases h
    · cases h
/-- a call by a contract; L1: chunks whose blocks it may change, and what else is no longer known behind it -/
theorem lx_call {dst : Option Tmp} {fx : Operand} {xs : Array Operand} {ts : Array TypeId} {ty : TypeId} {pos : String} {after : Array Edge} {guard : Option (Nat × Bool)} {d : Nat} {f : FuncId} {first captured : Array Value} {vs args : List Value} {Lin : List Ck} {D : List Nat} {post : Value → List Ck → Prop}
    (h : Fn P f args Lin D post) (L1 L2 : List Ck) (hsplit : Gives L (L1 ++ L2)) (hin : ∀ w, Mem M L w → Mem ⟨w, D⟩ Lin w) (hD : ∀ b ∈ D, ∃ c ∈ L1, c.mut_ = true ∧ c.on b) (hgs : ∀ Lo, s.gives L → s.gives (Lo ++ L2))
    (hl : s.loud i = true) {p : Option Bool} (hg : gOf ops t ⟨dst, .call ⟨.value fx, xs, ts⟩, ty, pos, after, guard⟩ = some p) (hp : cb p = true) (hd : dst = some d) (hn : Nat.blt d n = true) (hx : o1 t fx = some (.func (.func f) first captured)) (hxs : o1s t xs.toList = some vs) (hargs : first.toList ++ vs ++ captured.toList = args)
    (hk : ∀ v Lo, post v Lo → LX P n M ops s (i + 1) rest Q ((d, none, v) :: t) (Lo ++ L2)) : LX P n M ops s i (⟨dst, .call ⟨.value fx, xs, ts⟩, ty, pos, after, guard⟩ :: rest) Q t L :=
  lx_loud hl hg hp fun a w hf hm hs K hK => by
    have hev : xs.map a.eval = vs.toArray := by
      apply Array.ext'
      have := o1s_eval hf hxs
      simpa using this
    have hall : first ++ xs.map a.eval ++ captured = args.toArray := by
      apply Array.ext'
      rw [hev, ← hargs]
      simp
    unfold Oper.wp execOp
    simp only [resolve, hf.o1 hx, Deferred.ofValue, Sem.run_bind, Sem.run_pure, Result.andThen_ok, invoke, hall, h.1 args.toArray w]
    show Calls P f args.toArray w _
    refine (h.2 w (hin w hm)).mono ?_
    rintro e w' ⟨v, Lo, rfl, hp, hm', hmu⟩
    have := Mem.call (hsplit M w hm) hD hm' hmu
    show K (a.put dst v) w'
    rw [hd]
    exact hK _ _ _ _ (hf.put1 (Nat.le_of_ble_eq_true hn) v) this (hgs Lo hs) (hk v Lo hp)
/-- a call that changes nothing that was there -/
theorem lx_call0 {dst : Option Tmp} {fx : Operand} {xs : Array Operand} {ts : Array TypeId} {ty : TypeId} {pos : String} {after : Array Edge} {guard : Option (Nat × Bool)} {d : Nat} {f : FuncId} {first captured : Array Value} {vs args : List Value} {Lin : List Ck} {post : Value → List Ck → Prop}
    (h : Fn P f args Lin [] post) (hin : ∀ w, Mem M L w → Mem ⟨w, []⟩ Lin w)
    (hl : s.loud i = true) {p : Option Bool} (hg : gOf ops t ⟨dst, .call ⟨.value fx, xs, ts⟩, ty, pos, after, guard⟩ = some p) (hp : cb p = true) (hd : dst = some d) (hn : Nat.blt d n = true) (hx : o1 t fx = some (.func (.func f) first captured)) (hxs : o1s t xs.toList = some vs) (hargs : first.toList ++ vs ++ captured.toList = args)
    (hk : ∀ v Lo, post v Lo → LX P n M ops s (i + 1) rest Q ((d, none, v) :: t) (Lo ++ L)) : LX P n M ops s i (⟨dst, .call ⟨.value fx, xs, ts⟩, ty, pos, after, guard⟩ :: rest) Q t L :=
  lx_call h [] L (Gives.refl _) hin (by simp) (fun Lo hs => hs.more (Gives.right Lo L)) hl hg hp hd hn hx hxs hargs hk
theorem in_nil {w : World} (_ : Mem M L w) : Mem ⟨w, []⟩ [] w := ⟨Keep.refl w [], by simp, by simp, .nil⟩
end
end Go.Proofs.YtmochicneilhhaaGreat
namespace Go.Proofs.YtmochicneilhhaaGreat
open Go.RowKit

section
variable {P : Program} {n : Nat} {M : Me} {Q : Post} {t : Fr} {L : List Ck} {ops : Array Oper} {s : Way} {i : Nat} {rest : List Oper}

theorem in_ro {w : World} {Lin : List Ck} {A : Option Addr} {m sz : Nat} {xs : List Value} (h : Row w w.heap.size sz A m xs) (hin : Mem ⟨w, []⟩ Lin w) (hro : Lin.all (fun c => !c.mut_) = true) : Mem ⟨w, []⟩ (.ro A m sz xs :: Lin) w := by
  refine ⟨hin.keep, fun c hc => ?_, fun c hc hm => ?_, List.Pairwise.cons (fun c hc hm => ?_) hin.sep⟩
  · rcases List.mem_cons.1 hc with rfl | hc
    · exact h
    · exact hin.all c hc
  · rcases List.mem_cons.1 hc with rfl | hc
    · cases hm
    · exact hin.out c hc hm
  · have := List.all_eq_true.1 hro c hc
    rcases hm with hm | hm
    · cases hm
    · rw [hm] at this; cases this
/-- the row that a chunk shows -/
theorem row_ro {w : World} (k : Nat) {A : Option Addr} {m sz : Nat} {xs : List Value} (hk : L[k]? = some (.ro A m sz xs)) (hm : Mem M L w) : Row w w.heap.size sz A m xs := hm.get hk
theorem row_own {w : World} (k : Nat) {A : Option Addr} {m c : Nat} {T : TypeId} {sz : Nat} {xs : List Value} (hk : L[k]? = some (.own A m c T sz xs)) (hm : Mem M L w) : Row w w.heap.size sz A m xs := row_of_own (show w.ownsRow 0 T sz (.slice A m c) m xs from hm.get hk)
theorem row_blk {w : World} (k : Nat) {b m sz : Nat} {T : TypeId} {cs : List Value} (hk : L[k]? = some (.blk b cs T)) (hl : cs.length = m * sz) (hm : Mem M L w) : Row w w.heap.size sz (some ⟨b, 0, none⟩) m cs := by
  have hb : Blk w b cs.toArray T := hm.get hk
  refine ⟨hl, fun _ => ⟨b, 0, rfl, hb.lt, fun j u hu => ?_⟩⟩
  rw [hb.cell]
  simpa using hu

/-- the place of a cell of a row -/
def atI (A : Option Addr) (c : Nat) : Value := .pointer (A.map fun a => a.add c)
def mulI (q : Nat) : Nat → Nat
  | 1 => q
  | sz => q * sz
theorem mulI_eq (q sz : Nat) : mulI q sz = q * sz := by
  unfold mulI
  split
  · simp
  · rfl
theorem add_at (b off c : Nat) : ((⟨b, off, none⟩ : Addr).add c) = ⟨b, off + c, none⟩ := by
  unfold Addr.add
  split
  · rename_i h0; subst h0; rfl
  · rfl
/-- a chunk that shows a row -/
inductive Shows : Ck → Option Addr → Nat → Nat → List Value → Prop where
  | ro (A m sz xs) : Shows (.ro A m sz xs) A m sz xs
  | own (A m c T sz xs) : Shows (.own A m c T sz xs) A m sz xs
theorem Shows.row {c : Ck} {A : Option Addr} {m sz : Nat} {xs : List Value} {w : World} (h : Shows c A m sz xs) (hc : c.holds w) : Row w w.heap.size sz A m xs := by
  cases h with
  | ro => exact hc
  | own => exact row_of_own hc
theorem yl_index {E : Env P} {p c1 c2 : Option Bool} {dst : Option Tmp} {T : TypeId} {x y : Operand} {ty : TypeId} {pos : String} {after : Array Edge} {guard : Option (Nat × Bool)} (k : Nat) {ck : Ck} {A : Option Addr} {m c : Nat} {κ : IntKind} {iv : Int} {e : TypeId} {j : TyI} {xs : List Value}
    (hx : ov t x = some (c1, .slice A m c)) (hy : ov t y = some (c2, .int κ iv)) (hT : tyOf E.f T = .slice e) (he : E.f e = some j) (hk : L[k]? = some ck) (hsh : Shows ck A m j.size xs)
    (h1 : cb p = true → cb c1 = true) (h2 : cb p = true → cb c2 = true) (hb : cb p = true → 0 ≤ iv ∧ iv < m) : Yl P n t L p ⟨dst, .indexAddr T x y, ty, pos, after, guard⟩ (atI A (mulI iv.toNat j.size)) := fun hp M a w hf hm => by
  have hu := run_underlying (P := P) (tyOf_slice hT) w
  have hs := E.size he w
  obtain ⟨hb1, hb2⟩ := hb hp
  obtain ⟨b, off, rfl, _, _⟩ := (hsh.row (hm.get hk)).2 (by omega)
  unfold execOp
  refine run_v ?_
  rw [hf.ov hx (h1 hp), hf.ov hy (h2 hp)]
  simp [Instr.indexAt, asIntOf, hu, hb1, hb2, hs, atI, mulI_eq]
/-- a field of an element -/
theorem yl_fieldI {E : Env P} {p c1 : Option Bool} {dst : Option Tmp} {T : TypeId} {x : Operand} {f : Nat} {ty : TypeId} {pos : String} {after : Array Edge} {guard : Option (Nat × Bool)} (k : Nat) {ck : Ck} {A : Option Addr} {m c sz : Nat} {fs : List (TypeId × Nat)} {fd : TypeId × Nat} {j : TyI} {xs : List Value}
    (hx : ov t x = some (c1, atI A c)) (hT : tyOf E.f T = .struct fs) (hf' : fs[f]? = some fd) (he : E.f fd.1 = some j) (hpos : Nat.blt 0 j.size = true) (hk : L[k]? = some ck) (hsh : Shows ck A m sz xs) (h1 : cb p = true → cb c1 = true) (hm0 : cb p = true → 0 < m) :
    Yl P n t L p ⟨dst, .fieldAddr T x f, ty, pos, after, guard⟩ (atI A (c + fd.2)) := fun hp M a w hf hm => by
  obtain ⟨gs, hgs, hU⟩ := tyOf_struct hT
  have hu := run_underlying hU w
  obtain ⟨gd, hgd, rfl⟩ : ∃ gd, gs[f]? = some gd ∧ (gd.type, gd.offset) = fd := by
    rw [← hgs] at hf'
    simpa using hf'
  have hsz := E.size he w
  have hpos : 0 < j.size := Nat.le_of_ble_eq_true hpos
  obtain ⟨b, off, rfl, _, _⟩ := (hsh.row (hm.get hk)).2 (hm0 hp)
  unfold execOp
  refine run_v ?_
  rw [hf.ov hx (h1 hp)]
  have : j.size ≠ 0 := by omega
  simp [Instr.fieldAt, hu, hgd, Instr.sureAddr, fieldPlace, hsz, this, atI, add_at, Nat.add_assoc]
theorem yl_loadI {E : Env P} {p c : Option Bool} {dst : Option Tmp} {T : TypeId} {x : Operand} {ty : TypeId} {pos : String} {after : Array Edge} {guard : Option (Nat × Bool)} (k : Nat) {ck : Ck} {A : Option Addr} {m q sz : Nat} {j : TyI} {xs : List Value} {v : Value}
    (hx : ov t x = some (c, atI A q)) (hT : E.f T = some j) (hk : L[k]? = some ck) (hsh : Shows ck A m sz xs) (ha : isAggD j.desc = false)
    (hv : cb p = true → xs[q]? = some v) (h1 : cb p = true → cb c = true) : Yl P n t L p ⟨dst, .load T x, ty, pos, after, guard⟩ v := fun hp M a w hf hm => by
  have hr := hsh.row (hm.get hk)
  have hl := hr.1
  have hv := hv hp
  have hq : q < xs.length := (List.getElem?_eq_some_iff.1 hv).1
  obtain ⟨b, off, rfl, _, hc⟩ := hr.2 (by
    rcases Nat.eq_zero_or_pos m with h0 | h0
    · rw [h0, Nat.zero_mul] at hl; omega
    · exact h0)
  have hcell := hc q v hv
  have hu := isAgg_run hT w
  unfold execOp
  refine run_v ?_
  rw [hf.ov hx (h1 hp)]
  simp [Instr.loadAt, atI, Instr.sureAddr, add_at, loadVar, hu, ha, load, Sem.run, hcell]
/-- cells number c and on -/
def cellsAt (xs : List Value) (c sz : Nat) : List Value := (xs.drop c).take sz
theorem yl_loadN {E : Env P} {p c : Option Bool} {dst : Option Tmp} {T : TypeId} {x : Operand} {ty : TypeId} {pos : String} {after : Array Edge} {guard : Option (Nat × Bool)} (k : Nat) {ck : Ck} {A : Option Addr} {m q sz : Nat} {j : TyI} {xs vs : List Value}
    (hx : ov t x = some (c, atI A q)) (hT : E.f T = some j) (hk : L[k]? = some ck) (hsh : Shows ck A m sz xs) (ha : isAggD j.desc = true)
    (hv : cb p = true → cellsAt xs q j.size = vs) (hlen : vs.length = j.size) (hpos : Nat.blt 0 j.size = true) (h1 : cb p = true → cb c = true) : Yl P n t L p ⟨dst, .load T x, ty, pos, after, guard⟩ (.agg vs.toArray) := fun hp M a w hf hm => by
  have hr := hsh.row (hm.get hk)
  have hl := hr.1
  have hv := hv hp
  have hpos : 0 < j.size := Nat.le_of_ble_eq_true hpos
  obtain ⟨b, off, rfl, _, hc⟩ := hr.2 (by
    rcases Nat.eq_zero_or_pos m with h0 | h0
    · rw [h0, Nat.zero_mul] at hl
      rw [← hv, cellsAt, List.eq_nil_of_length_eq_zero hl] at hlen
      simp at hlen
      omega
    · exact h0)
  have hu := isAgg_run hT w
  have hs := E.size hT w
  unfold execOp
  refine run_v ?_
  rw [hf.ov hx (h1 hp)]
  have hcells := run_loadCells_list (P := P) w ⟨b, off + q, none⟩ vs (fun d u hu => by
    rw [← hv, cellsAt, List.getElem?_take] at hu
    split at hu
    · rw [List.getElem?_drop] at hu
      have := hc _ u hu
      rw [add_at]
      simpa [Nat.add_assoc] using this
    · cases hu)
  rw [hlen] at hcells
  simp [Instr.loadAt, atI, Instr.sureAddr, add_at, loadVar, hu, ha, hs, hcells]

theorem flat_len {α : Type} {f : α → List Value} {m : Nat} (hf : ∀ x, (f x).length = m) (l : List α) : (l.flatMap f).length = l.length * m := by
  induction l with
  | nil => simp
  | cons x l ih => simp [hf, ih, Nat.add_mul, Nat.add_comm]
theorem flat_at {α : Type} {f : α → List Value} {m : Nat} (hf : ∀ x, (f x).length = m) : ∀ {l : List α} {k : Nat} {x : α}, l[k]? = some x → cellsAt (l.flatMap f) (mulI k m) m = f x
  | y :: l, 0, x, h => by
    cases h
    rw [mulI_eq, Nat.zero_mul, cellsAt, List.drop_zero, List.flatMap_cons, List.take_append_of_le_length (by rw [hf]; exact Nat.le_refl _), List.take_of_length_le (by rw [hf]; exact Nat.le_refl _)]
  | y :: l, k + 1, x, h => by
    have ih := flat_at hf (l := l) (k := k) (x := x) (by simpa using h)
    rw [mulI_eq] at ih ⊢
    rw [← ih, cellsAt, cellsAt, List.flatMap_cons, List.drop_append, List.drop_eq_nil_of_le (by rw [hf, Nat.add_mul]; omega), List.nil_append, hf]
    congr 2
    rw [Nat.add_mul]
    omega
theorem flat_get {α : Type} {f : α → List Value} {m : Nat} (hf : ∀ x, (f x).length = m) {l : List α} {k : Nat} {x : α} (h : l[k]? = some x) {j : Nat} (hj : j < m) : (l.flatMap f)[mulI k m + j]? = (f x)[j]? := by
  rw [← flat_at hf h, cellsAt, List.getElem?_take, if_pos hj, List.getElem?_drop]
theorem run_v2 {s : Sem Value} {v : Value} {w w' : World} (h : s.run P w = .ok v w') : (do pure (.value (← s)) : Sem Next).run P w = .ok (.value v) w' := by simp [h]
/-- a slice of values, made -/
theorem lx_row {E : Env P} {T : TypeId} {m : Nat} {ps : Array (Nat × Operand)} {dst : Option Tmp} {ty : TypeId} {pos : String} {after : Array Edge} {guard : Option (Nat × Bool)} {d : Nat} {e : TypeId} {j : TyI} {z : Value} {vs : List Value} (hl : s.loud i = true) {p : Option Bool} (hg : gOf ops t ⟨dst, .buildSlice T m ps, ty, pos, after, guard⟩ = some p) (hp : cb p = true) (hd : dst = some d) (hn : Nat.blt d n = true)
    (hT : tyOf E.f T = .slice e) (he : E.f e = some j) (hz : j.zero = some z) (hps : ps.toList.map (·.1) = List.range m) (hvs : o1s t (ps.toList.map (·.2)) = some vs) (hsz : vs.all (fun v => (cellsL v).length == j.size) = true) (hpos : Nat.blt 0 (m * j.size) = true) (hsmall : Nat.ble (m * j.size) 16777216 = true)
    (h : ∀ b, LX P n M ops s (i + 1) rest Q ((d, none, .slice (some ⟨b, 0, none⟩) m m) :: t) (.blk b (vs.flatMap cellsL) e :: L)) : LX P n M ops s i (⟨dst, .buildSlice T m ps, ty, pos, after, guard⟩ :: rest) Q t L :=
  lx_new hl hg hp hd hn (fun b => .slice (some ⟨b, 0, none⟩) m m) (fun a w hf => by
    obtain ⟨g, hgi, h1, h2, h3⟩ := E.info he
    have hpos' : 0 < m * j.size := Nat.le_of_ble_eq_true hpos
    have hsmall' : m * j.size ≤ 16777216 := Nat.le_of_ble_eq_true hsmall
    have hev := o1s_eval hf hvs
    have hlen : vs.length = m := by
      have := congrArg List.length hev
      have h4 := congrArg List.length hps
      simp only [List.length_map, List.length_range] at this h4
      omega
    have hall : ∀ v ∈ vs, v.cells.size = j.size := fun v hv => by
      have := List.all_eq_true.1 hsz v hv
      rw [cellsL_ok]
      simpa using this
    have hfill := Go.Great.fill_whole (s := j.size) (Nat.pos_of_mul_pos_left hpos') vs ((Array.range (m * j.size)).map (z.cells[· % z.cells.size]!)) hall (by simp [hlen])
    have hparts : (ps.map fun (i, x) => (i, a.eval x)).toList = (vs.zipIdx 0).map fun x => (x.2, x.1) := by
      apply List.ext_getElem?
      intro q
      have h5 : (ps.toList.map (·.1))[q]? = (List.range m)[q]? := by rw [hps]
      have h6 : ((ps.toList.map (·.2)).map a.eval)[q]? = vs[q]? := by rw [hev]
      simp only [List.getElem?_map] at h5 h6
      simp only [Array.toList_map, List.getElem?_map, List.getElem?_zipIdx]
      cases hq : ps.toList[q]? with
      | none => rw [hq] at h6; simp at h6; rw [List.getElem?_eq_none h6]; rfl
      | some pr =>
        rw [hq] at h5 h6
        simp only [Option.map_some] at h5 h6
        have : q < m := by
          rcases Nat.lt_or_ge q m with h7 | h7
          · exact h7
          · rw [List.getElem?_eq_none (by simpa using h7)] at h5; cases h5
        rw [List.getElem?_range this] at h5
        rw [← h6]
        simp at h5 ⊢
        exact h5
    have hr := run_buildSlice (P := P) w T e m (ps.map fun (i, x) => (i, a.eval x)) _ g z (tyOf_slice hT) hgi (by rw [h3, hz]) (by rw [h1]; omega) (by rw [h1]; omega) (by rw [h1, hparts]; exact hfill)
    unfold execOp
    have : vs.flatMap (fun v => v.cells.toList) = vs.flatMap cellsL := by
      congr 1
      funext v
      rw [cellsL_ok]
    rw [this] at hr
    exact run_v2 hr) h
end
end Go.Proofs.YtmochicneilhhaaGreat
