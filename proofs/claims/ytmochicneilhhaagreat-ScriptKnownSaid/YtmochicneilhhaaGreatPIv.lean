/- More rules: calls by way of an interface; texts ranged over. -/
import Derived.Test.YtmochicneilhhaaGreatPBv
import Derived.Test.YtmochicneilhhaaGreatPGo
import Derived.Test.YtmochicneilhhaaGreatPSf
namespace Go.Proofs.YtmochicneilhhaaGreat
open Go.RowKit
section
variable {P : Program} {n : Nat} {M : Me} {Q : Post} {t : Fr} {L : List Ck} {ops : Array Oper} {s : Way} {i : Nat} {rest : List Oper}
/-- a method of what an interface holds, as a function value -/
theorem yl_makeMeth {p : Option Bool} {dst : Option Tmp} {name : String} {first captured : Array Operand} {ty : TypeId} {pos : String} {after : Array Edge} {guard : Option (Nat × Bool)} {vs us : List Value} (h1 : o2l t first.toList = some vs) (h2 : o2l t captured.toList = some us) (hi1 : Imps p t first.toList) (hi2 : Imps p t captured.toList) :
    Yl P n t L p ⟨dst, .makeFunc (.method name) first captured, ty, pos, after, guard⟩ (.func (.method name) vs.toArray us.toArray) := fun hp M a w hf hm => by
  have e1 : first.map a.eval = vs.toArray := by
    apply Array.ext'
    have := o2l_eval hf hp h1 hi1
    simpa using this
  have e2 : captured.map a.eval = us.toArray := by
    apply Array.ext'
    have := o2l_eval hf hp h2 hi2
    simpa using this
  unfold execOp
  refine run_v ?_
  rw [e1, e2]
  rfl
theorem run_program' (w : World) : (program).run P w = .ok P w := rfl
/-- its receiver is no nil pointer -/
theorem yl_nilMeth {p c : Option Bool} {dst : Option Tmp} {x : Operand} {ty : TypeId} {pos : String} {after : Array Edge} {guard : Option (Nat × Bool)} {name : String} {T : TypeId} {v : Value} {cap : Array Value} (hx : ov t x = some (c, .func (.method name) #[.iface T v] cap))
    (hn : ∀ w, (nilAhead (P.types.size + Made.depth) T v name).run P w = .ok (some false) w) (hc : cb p = true → cb c = true) :
    Yl P n t L p ⟨dst, .nilCheck x, ty, pos, after, guard⟩ (.func (.method name) #[.iface T v] cap) := fun hp M a w hf hm => by
  have e := hf.ov hx (hc hp)
  have e0 : (#[Value.iface T v] : Array Value)[0]? = some (.iface T v) := rfl
  unfold execOp
  dsimp only
  rw [e]
  dsimp only
  rw [e0]
  simp only [Sem.run_bind, run_program', Result.andThen_ok, hn]
  rfl
/-- a call of a method of what an interface holds -/
theorem lx_icall {dst : Option Tmp} {fx : Operand} {name : String} {xs : Array Operand} {ts : Array TypeId} {ty : TypeId} {pos : String} {after : Array Edge} {guard : Option (Nat × Bool)} {d : Nat} {f : FuncId} {T : TypeId} {u : Value} {vs args : List Value} {Lin : List Ck} {D : List Nat} {post : Value → List Ck → Prop}
    (h : Fn P f args Lin D post) (hme : ∀ w, (callMethod (.iface T u) name vs.toArray).run P w = .ok (.enter f args.toArray) w) (L1 L2 : List Ck) (hsplit : Gives L (L1 ++ L2)) (hin : ∀ w, Mem M L w → Mem ⟨w, D⟩ Lin w) (hD : ∀ b ∈ D, ∃ c ∈ L1, c.mut_ = true ∧ c.on b) (hgs : ∀ Lo, s.gives L → s.gives (Lo ++ L2))
    (hl : s.loud i = true) {p : Option Bool} (hg : gOf ops t ⟨dst, .call ⟨.invoke fx name, xs, ts⟩, ty, pos, after, guard⟩ = some p) (hp : cb p = true) (hd : dst = some d) (hn : Nat.blt d n = true) (hx : o1 t fx = some (.iface T u)) (hxs : o1s t xs.toList = some vs)
    (hk : ∀ v Lo, post v Lo → LX P n M ops s (i + 1) rest Q ((d, none, v) :: t) (Lo ++ L2)) : LX P n M ops s i (⟨dst, .call ⟨.invoke fx name, xs, ts⟩, ty, pos, after, guard⟩ :: rest) Q t L :=
  lx_loud hl hg hp fun a w hf hm hs K hK => by
    have hev : xs.map a.eval = vs.toArray := by
      apply Array.ext'
      have := o1s_eval hf hxs
      simpa using this
    have e1 : (#[Value.iface T u] ++ vs.toArray)[0]? = some (.iface T u) := by simp
    have e2 : (#[Value.iface T u] ++ vs.toArray).extract 1 (#[Value.iface T u] ++ vs.toArray).size = vs.toArray := by
      apply Array.ext'
      simp
    have key : (execOp a.eval ⟨dst, .call ⟨.invoke fx name, xs, ts⟩, ty, pos, after, guard⟩).run P w = .ok (.enter f args.toArray) w := by
      have e3 : execOp a.eval ⟨dst, .call ⟨.invoke fx name, xs, ts⟩, ty, pos, after, guard⟩ = invoke (.fn (.method name) #[]) (#[a.eval fx] ++ xs.map a.eval) := rfl
      rw [e3, hf.o1 hx, hev]
      unfold invoke
      dsimp only
      rw [e1]
      dsimp only
      rw [e2]
      exact hme w
    unfold Oper.wp
    rw [key]
    show Calls P f args.toArray w _
    refine (h.2 w (hin w hm)).mono ?_
    rintro e w' ⟨v, Lo, rfl, hp, hm', hmu⟩
    have := Mem.call (hsplit M w hm) hD hm' hmu
    show K (a.put dst v) w'
    rw [hd]
    exact hK _ _ _ _ (hf.put1 (Nat.le_of_ble_eq_true hn) v) this (hgs Lo hs) (hk v Lo hp)
theorem isx_icall {dst : Option Tmp} {ty : TypeId} {pos : String} {after : Array Edge} {guard : Option (Nat × Bool)} {x : Operand} {name : String} {xs : Array Operand} {ts : Array TypeId} (h : LX P n M ops s i (⟨dst, .call ⟨.invoke x name, xs, ts⟩, ty, pos, after, guard⟩ :: rest) Q t L) : LX P n M ops s i (⟨dst, .call ⟨.invoke x name, xs, ts⟩, ty, pos, after, guard⟩ :: rest) Q t L := h
theorem isx_range {dst : Option Tmp} {ty : TypeId} {pos : String} {after : Array Edge} {guard : Option (Nat × Bool)} {x : Operand} {T : TypeId} (h : LX P n M ops s i (⟨dst, .range T x, ty, pos, after, guard⟩ :: rest) Q t L) : LX P n M ops s i (⟨dst, .range T x, ty, pos, after, guard⟩ :: rest) Q t L := h
theorem isx_next {dst : Option Tmp} {ty : TypeId} {pos : String} {after : Array Edge} {guard : Option (Nat × Bool)} {x : Operand} {b : Bool} (h : LX P n M ops s i (⟨dst, .next x b, ty, pos, after, guard⟩ :: rest) Q t L) : LX P n M ops s i (⟨dst, .next x b, ty, pos, after, guard⟩ :: rest) Q t L := h
/-- a new block that is no row of cells -/
theorem Mem.newobj {w : World} (h : Mem M L w) (o : Obj) : Mem M (.obj w.heap.size o :: L) (w.alloc o) := by
  have hold : ∀ b, b < w.heap.size → (w.alloc o).heap[b]? = w.heap[b]? := fun b hb => Below.heap_alloc w _ b hb
  refine ⟨⟨h.keep.os, h.keep.tape, h.keep.output, Nat.le_trans h.keep.size (by simp), fun k hk hd => (hold k (Nat.lt_of_lt_of_le hk h.keep.size)).trans (h.keep.block k hk hd)⟩, ?_, ?_, ?_⟩
  · intro c hc
    rcases List.mem_cons.1 hc with rfl | hc
    · exact Array.getElem?_push_size
    · exact Ck.stay (by simp) (fun b hb => hold b (Ck.lt (h.all c hc) hb)) (h.all c hc)
  · intro c hc hm b hb
    rcases List.mem_cons.1 hc with rfl | hc
    · cases hb; exact .inr h.keep.size
    · exact h.out c hc hm b hb
  · refine List.Pairwise.cons (fun c hc _ b hb hb' => ?_) h.sep
    cases hb
    exact Nat.lt_irrefl _ (Ck.lt (h.all c hc) hb')
/-- a text is ranged over -/
theorem lx_range {E : Env P} {T : TypeId} {x : Operand} {dst : Option Tmp} {ty : TypeId} {pos : String} {after : Array Edge} {guard : Option (Nat × Bool)} {d : Nat} {u : ByteArray} (hl : s.loud i = true) {p : Option Bool} (hg : gOf ops t ⟨dst, .range T x, ty, pos, after, guard⟩ = some p) (hp : cb p = true) (hd : dst = some d) (hn : Nat.blt d n = true)
    (hx : o1 t x = some (.string u)) (hT : tyOf E.f T = .string) (hgs : ∀ b, s.gives L → s.gives (.obj b (.stringIter u 0) :: L))
    (h : ∀ b, LX P n M ops s (i + 1) rest Q ((d, none, .pointer (some ⟨b, 0, none⟩)) :: t) (.obj b (.stringIter u 0) :: L)) : LX P n M ops s i (⟨dst, .range T x, ty, pos, after, guard⟩ :: rest) Q t L :=
  lx_loud hl hg hp fun a w hf hm hs K hK => by
    have hu := run_underlying (P := P) (tyOf_string hT) w
    have key : (execOp a.eval ⟨dst, .range T x, ty, pos, after, guard⟩).run P w = .ok (.value (.pointer (some ⟨w.heap.size, 0, none⟩))) (w.alloc (.stringIter u 0)) := by
      have e3 : execOp a.eval ⟨dst, .range T x, ty, pos, after, guard⟩ = (do pure (.value (← Instr.range T (a.eval x))) : Sem Next) := rfl
      rw [e3, hf.o1 hx]
      refine run_v2 ?_
      unfold Instr.range
      rw [Sem.run_bind, hu]
      rfl
    unfold Oper.wp
    rw [key]
    show K (a.put dst (.pointer (some ⟨w.heap.size, 0, none⟩))) (w.alloc (.stringIter u 0))
    rw [hd]
    exact hK _ _ _ _ (hf.put1 (Nat.le_of_ble_eq_true hn) _) (hm.newobj _) (hgs _ hs) (h _)
/-- the next letter of a text that is ranged over -/
theorem lx_next {x : Operand} {dst : Option Tmp} {ty : TypeId} {pos : String} {after : Array Edge} {guard : Option (Nat × Bool)} {d b at_ wd : Nat} {u : ByteArray} {c : Nat} (k : Nat) (hl : s.loud i = true) {p : Option Bool} (hg : gOf ops t ⟨dst, .next x true, ty, pos, after, guard⟩ = some p) (hp : cb p = true) (hd : dst = some d) (hn : Nat.blt d n = true)
    (hx : o1 t x = some (.pointer (some ⟨b, 0, none⟩))) (hk : L[k]? = some (.obj b (.stringIter u at_))) (hlt : at_ < u.size) (hdec : Utf8.decode u at_ = (c, wd)) (hgs : s.gives L → s.gives (L.set k (.obj b (.stringIter u (at_ + wd)))))
    (h : LX P n M ops s (i + 1) rest Q ((d, none, .tuple #[.bool true, .int .i64 at_, .int .i32 c]) :: t) (L.set k (.obj b (.stringIter u (at_ + wd))))) : LX P n M ops s i (⟨dst, .next x true, ty, pos, after, guard⟩ :: rest) Q t L :=
  lx_loud hl hg hp fun a w hf hm hs K hK => by
    have ho : w.heap[b]? = some (.stringIter u at_) := hm.get hk
    have hb : b < w.heap.size := (Array.getElem?_eq_some_iff.1 ho).1
    have hgo : (getObj b).run P w = .ok (.stringIter u at_) w := by simp [getObj, Sem.run, ho]
    have hso : ∀ o, (setObj b o).run P w = .ok () { w with heap := w.heap.setIfInBounds b o } := fun o => by simp [setObj, Sem.run, ho]
    have key : (execOp a.eval ⟨dst, .next x true, ty, pos, after, guard⟩).run P w = .ok (.value (.tuple #[.bool true, .int .i64 at_, .int .i32 c])) ({ w with heap := w.heap.setIfInBounds b (.stringIter u (at_ + wd)) }) := by
      have e3 : execOp a.eval ⟨dst, .next x true, ty, pos, after, guard⟩ = (do pure (.value (← Instr.next (a.eval x) true ty)) : Sem Next) := rfl
      rw [e3, hf.o1 hx]
      refine run_v2 ?_
      unfold Instr.next
      simp only [Sem.run_bind, hgo, Result.andThen_ok, hlt, if_true, hdec, hso, Sem.run_pure]
      rfl
    unfold Oper.wp
    rw [key]
    show K (a.put dst (.tuple #[.bool true, .int .i64 at_, .int .i32 c])) _
    rw [hd]
    refine hK _ _ _ _ (hf.put1 (Nat.le_of_ble_eq_true hn) _) ?_ (hgs hs) h
    refine hm.turn hk rfl (fun b hb => .inl hb) rfl rfl rfl ?_ (fun g hg hne => ?_) ?_
    · simp
    · rw [Array.getElem?_setIfInBounds_ne]
      exact fun e => hne e
    · show (w.heap.setIfInBounds b _)[b]? = _
      simp [hb]
/-- bytes appended to bytes -/
theorem lx_appB {E : Env P} {d : Nat} {x y : Operand} {T : TypeId} {ty : TypeId} {pos : String} {after : Array Edge} {guard : Option (Nat × Bool)} {p : Option Bool} (k : Nat) (l m : List B8) {A A2 : Option Addr} {q c mm c2 : Nat} {e : TypeId} {j : TyI} (hq : q = l.length) (hmm : mm = m.length)
    (hl : s.loud i = true) (hg : gOf ops t ⟨some d, .call ⟨.builtin .append, #[x, y], #[T, T]⟩, ty, pos, after, guard⟩ = some p) (hp : cb p = true) (hn : Nat.blt d n = true)
    (hx : o1 t x = some (.slice A q c)) (hy : o1 t y = some (.slice A2 mm c2)) (hT : tyOf E.f T = .slice e) (he : E.f e = some j) (hz : j.zero = some (.int .u8 0)) (hby : (j.size, j.bytes) = (1, 1)) (hk : L[k]? = some (.own A q c e 1 (bvs l)))
    (hr : ∀ w, Mem M L w → Row w w.heap.size 1 A2 mm (bvs m)) (hb : (l ++ m).length ≤ 70368744177664) (hgs : ∀ A' c', s.gives L → s.gives (L.set k (.own A' (l ++ m).length c' e 1 (bvs (l ++ m)))))
    (h : ∀ A' c', LX P n M ops s (i + 1) rest Q ((d, none, .slice A' (l ++ m).length c') :: t) (L.set k (.own A' (l ++ m).length c' e 1 (bvs (l ++ m))))) : LX P n M ops s i (⟨some d, .call ⟨.builtin .append, #[x, y], #[T, T]⟩, ty, pos, after, guard⟩ :: rest) Q t L := by
  obtain ⟨b1, b2⟩ := Prod.mk.inj hby
  have hlen : (l ++ m).length = q + mm := by rw [List.length_append, hq, hmm]
  have hv : bvs (l ++ m) = bvs l ++ bvs m := bvs_append ..
  rw [hlen, hv] at hgs h
  rw [hlen] at hb
  exact lx_append (E := E) k hl hg hp hn hx hy hT he hz (by rw [b1]; rfl) hk b1 rfl hr bvs_one (by unfold maxLen; omega) (by rw [b2]; omega) hgs h
theorem lx_nextEnd {x : Operand} {dst : Option Tmp} {ty : TypeId} {pos : String} {after : Array Edge} {guard : Option (Nat × Bool)} {d b at_ : Nat} {u : ByteArray} (k : Nat) (hl : s.loud i = true) {p : Option Bool} (hg : gOf ops t ⟨dst, .next x true, ty, pos, after, guard⟩ = some p) (hp : cb p = true) (hd : dst = some d) (hn : Nat.blt d n = true)
    (hx : o1 t x = some (.pointer (some ⟨b, 0, none⟩))) (hk : L[k]? = some (.obj b (.stringIter u at_))) (hlt : ¬ at_ < u.size)
    (h : LX P n M ops s (i + 1) rest Q ((d, none, .tuple #[.bool false]) :: t) L) : LX P n M ops s i (⟨dst, .next x true, ty, pos, after, guard⟩ :: rest) Q t L :=
  lx_loud hl hg hp fun a w hf hm hs K hK => by
    have ho : w.heap[b]? = some (.stringIter u at_) := hm.get hk
    have hgo : (getObj b).run P w = .ok (.stringIter u at_) w := by simp [getObj, Sem.run, ho]
    have key : (execOp a.eval ⟨dst, .next x true, ty, pos, after, guard⟩).run P w = .ok (.value (.tuple #[.bool false])) w := by
      have e3 : execOp a.eval ⟨dst, .next x true, ty, pos, after, guard⟩ = (do pure (.value (← Instr.next (a.eval x) true ty)) : Sem Next) := rfl
      rw [e3, hf.o1 hx]
      refine run_v2 ?_
      unfold Instr.next
      simp only [Sem.run_bind, hgo, Result.andThen_ok, hlt, if_false, Sem.run_pure]
    unfold Oper.wp
    rw [key]
    show K (a.put dst (.tuple #[.bool false])) _
    rw [hd]
    exact hK _ _ _ _ (hf.put1 (Nat.le_of_ble_eq_true hn) _) hm hs h
end
section
variable {n : Nat} {M : Me} {Q : Post} {t : Fr} {L : List Ck} {ops : Array Oper} {s : Way} {i : Nat} {rest : List Oper} {p : Option Bool} {dst : Option Tmp} {ty : TypeId} {pos : String} {after : Array Edge} {guard : Option (Nat × Bool)}
theorem k_icall {d : Nat} {fx : Operand} {name : String} {xs : Array Operand} {ts : Array TypeId} {f : FuncId} {T : TypeId} {u : Value} {vs args : List Value} {Lin : List Ck} {D : List Nat} {post : Value → List Ck → Prop}
    (h : Fn Tryz.prog f args Lin D post) (hme : ∀ w, (callMethod (.iface T u) name vs.toArray).run Tryz.prog w = .ok (.enter f args.toArray) w) (ki k1 k2 : List Nat) {L1 L2 : List Ck} (hl : s.loud i = true) (hg : gOf ops t ⟨dst, .call ⟨.invoke fx name, xs, ts⟩, ty, pos, after, guard⟩ = some p) (hp : cb p = true) (hd : dst = some d) (hn : Nat.blt d n = true) (hx : o1 t fx = some (.iface T u)) (hxs : o1s t xs.toList = some vs)
    (hk : ∀ v Lo, post v Lo → LX Tryz.prog n M ops s (i + 1) rest Q ((d, none, v) :: t) (Lo ++ L2))
    (hi : pickL L ki = Lin := by exact rfl) (e1 : pickL L k1 = L1 := by first | (dsimp only [pickL, List.filterMap_cons, List.filterMap_nil, List.getElem?_cons_zero, List.getElem?_cons_succ, List.cons_append, List.nil_append, List.set_cons_zero, List.set_cons_succ]; done) | (dsimp only [pickL, List.filterMap_cons, List.filterMap_nil, List.getElem?_cons_zero, List.getElem?_cons_succ, List.cons_append, List.nil_append, List.set_cons_zero, List.set_cons_succ]; exact rfl) | exact rfl) (e2 : pickL L k2 = L2 := by first | (dsimp only [pickL, List.filterMap_cons, List.filterMap_nil, List.getElem?_cons_zero, List.getElem?_cons_succ, List.cons_append, List.nil_append, List.set_cons_zero, List.set_cons_succ]; done) | (dsimp only [pickL, List.filterMap_cons, List.filterMap_nil, List.getElem?_cons_zero, List.getElem?_cons_succ, List.cons_append, List.nil_append, List.set_cons_zero, List.set_cons_succ]; exact rfl) | exact rfl) (hni : ki.Nodup := by decide) (hnn : (k1 ++ k2).Nodup := by decide)
    (hin : AllD D Lin := by first | (simp [AllD]; done) | exact ⟨fun _ hb => Option.mem_toList.2 hb, trivial⟩) (hD : ∀ b ∈ D, ∃ c ∈ L1, c.mut_ = true ∧ c.on b := by first | (simp [Ck.mut_, Ck.on]; done) | exact fun _ hb => ⟨Ck.own _ _ _ _ _ _, List.mem_cons_self .., rfl, Option.mem_toList.1 hb⟩) (hgs : ∀ Lo, s.gives L → s.gives (Lo ++ L2) := by exact fun _ _ => trivial) :
    LX Tryz.prog n M ops s i (⟨dst, .call ⟨.invoke fx name, xs, ts⟩, ty, pos, after, guard⟩ :: rest) Q t L :=
  lx_icall h hme L1 L2 (Gives.pick (k1 ++ k2) hnn (by rw [← e1, ← e2]; exact List.filterMap_append ..)) (fun _ hm => hm.enter ki hni hi hin.spec) hD hgs hl hg hp hd hn hx hxs hk
end
end Go.Proofs.YtmochicneilhhaaGreat
