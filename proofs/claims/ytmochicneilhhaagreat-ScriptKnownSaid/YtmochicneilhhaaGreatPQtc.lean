/- requests: what bytes tell, plainly; requests: taken, and parsed; requests: Parse, and Id. -/
import Derived.Test.YtmochicneilhhaaGreatPGo
import Derived.Test.YtmochicneilhhaaGreatPQtb
import Derived.Test.YtmochicneilhhaaGreatPSg
--SHORT 4
namespace Go.Proofs.YtmochicneilhhaaGreat.rq
open Go.RowKit Go.Proofs.YtmochicneilhhaaGreat.kit Go.Proofs.YtmochicneilhhaaGreat.pk
attribute [local irreducible] de be
/-- what the program's reader takes -/
def tkP (s : RQ × Rs) : Pt → RQ × Rs
  | .a => ({ s.1 with at_ := de 0#64 (s.2.got 8) }, s.2.adv 8)
  | .l => ({ s.1 with le := de 0#64 (s.2.got 8) }, s.2.adv 8)
  | .p => ({ s.1 with pg := (de 0#64 (s.2.got 1)).setWidth 8 }, s.2.adv 1)
  | .d => ({ s.1 with du := (de 0#64 (s.2.got 2)).setWidth 16 }, s.2.adv 2)
  | .w => ({ s.1 with so := (de 0#64 (s.2.got 1)).setWidth 8, ky := (s.2.adv 1).text, to_ := (s.2.adv 1).textTo.text, ls := (de 0#64 ((s.2.adv 1).textTo.textTo.got 8)).toInt, ms := (de 0#64 (((s.2.adv 1).textTo.textTo.adv 8).got 8)).toInt }, (((s.2.adv 1).textTo.textTo).adv 8).adv 8)
/-- what the reference takes -/
def rdP (l : List B8) (s : RQ × Nat × Bool) : Pt → RQ × Nat × Bool
  | .a => ({ s.1 with at_ := (rTake l s.2.1 s.2.2 8).1 }, (rTake l s.2.1 s.2.2 8).2)
  | .l => ({ s.1 with le := (rTake l s.2.1 s.2.2 8).1 }, (rTake l s.2.1 s.2.2 8).2)
  | .p => ({ s.1 with pg := (rTake l s.2.1 s.2.2 1).1.setWidth 8 }, (rTake l s.2.1 s.2.2 1).2)
  | .d => ({ s.1 with du := (rTake l s.2.1 s.2.2 2).1.setWidth 16 }, (rTake l s.2.1 s.2.2 2).2)
  | .w =>
    let t1 := rTake l s.2.1 s.2.2 1
    let t2 := rText l t1.2.1 t1.2.2
    let t3 := rText l t2.2.1 t2.2.2
    let t4 := rTake l t3.2.1 t3.2.2 8
    let t5 := rTake l t4.2.1 t4.2.2 8
    ({ s.1 with so := t1.1.setWidth 8, ky := t2.1, to_ := t3.1, ls := t4.1.toInt, ms := t5.1.toInt }, t5.2)
theorem Ok_text {r : Rs} (h : r.Ok) : r.textTo.Ok := by
  unfold Rs.textTo
  split
  · exact (h.adv 2).adv _
  · exact ⟨h.len, h.cap, h.max⟩
theorem tkP_ok {s : RQ × Rs} (h : s.2.Ok) (q : Pt) : (tkP s q).2.Ok := by
  cases q
  · exact h.adv 8
  · exact h.adv 8
  · exact h.adv 1
  · exact h.adv 2
  · exact ((Ok_text (Ok_text (h.adv 1))).adv 8).adv 8
theorem step_rel {l : List B8} {r : RQ} {rr : Rs} {at' : Nat} {f : Bool} (h : Rel l rr at' f) (q : Pt) : (tkP (r, rr) q).1 = (rdP l (r, at', f) q).1 ∧ Rel l (tkP (r, rr) q).2 (rdP l (r, at', f) q).2.1 (rdP l (r, at', f) q).2.2 := by
  cases q
  · obtain ⟨h1, e1⟩ := h.num 8
    exact ⟨by simp only [tkP, rdP, e1], h1⟩
  · obtain ⟨h1, e1⟩ := h.num 8
    exact ⟨by simp only [tkP, rdP, e1], h1⟩
  · obtain ⟨h1, e1⟩ := h.num 1
    exact ⟨by simp only [tkP, rdP, e1], h1⟩
  · obtain ⟨h1, e1⟩ := h.num 2
    exact ⟨by simp only [tkP, rdP, e1], h1⟩
  · obtain ⟨h1, e1⟩ := h.num 1
    obtain ⟨h2, e2⟩ := h1.text
    obtain ⟨h3, e3⟩ := h2.text
    obtain ⟨h4, e4⟩ := h3.num 8
    obtain ⟨h5, e5⟩ := h4.num 8
    exact ⟨by simp only [tkP, rdP, e1, e2, e3, e4, e5], h5⟩
theorem fold_rel {l : List B8} : ∀ (ps : List Pt) {r : RQ} {rr : Rs} {at' : Nat} {f : Bool}, Rel l rr at' f → (ps.foldl tkP (r, rr)).1 = (ps.foldl (rdP l) (r, at', f)).1 ∧ Rel l (ps.foldl tkP (r, rr)).2 (ps.foldl (rdP l) (r, at', f)).2.1 (ps.foldl (rdP l) (r, at', f)).2.2
  | [], _, _, _, _, h => ⟨rfl, h⟩
  | q :: ps, r, rr, at', f, h => by
    obtain ⟨e, h1⟩ := step_rel (r := r) h q
    have := fold_rel ps (r := (tkP (r, rr) q).1) h1
    rw [List.foldl_cons, List.foldl_cons]
    rw [show tkP (r, rr) q = ((tkP (r, rr) q).1, (tkP (r, rr) q).2) from rfl]
    have e2 : ((tkP (r, rr) q).1, (rdP l (r, at', f) q).2.1, (rdP l (r, at', f) q).2.2) = rdP l (r, at', f) q := by rw [e]
    rw [e2] at this
    exact this
/-- a reader that has failed stays so -/
theorem take_fail (l : List B8) (at' k : Nat) : rTake l at' true k = (0#64, at', true) := if_pos (.inl rfl)
theorem text_fail (l : List B8) (at' : Nat) : rText l at' true = ([], at', true) := by rw [rText, take_fail]; exact if_pos (.inl rfl)
theorem rdP_fail (l : List B8) (r : RQ) (at' : Nat) (q : Pt) : (rdP l (r, at', true) q).2 = (at', true) := by
  cases q <;> simp only [rdP, take_fail, text_fail]
theorem fold_fail (l : List B8) : ∀ (ps : List Pt) (r : RQ) (at' : Nat), (ps.foldl (rdP l) (r, at', true)).2 = (at', true)
  | [], _, _ => rfl
  | q :: ps, r, at' => by
    rw [List.foldl_cons]
    have h := rdP_fail l r at' q
    have e : rdP l (r, at', true) q = ((rdP l (r, at', true) q).1, at', true) := Prod.ext rfl h
    rw [e]
    exact fold_fail l ps _ at'
theorem take_le {l : List B8} {at' : Nat} (h : at' ≤ l.length) (f : Bool) (k : Nat) : (rTake l at' f k).2.1 ≤ l.length := by
  unfold rTake
  split
  · exact h
  · rename_i hc
    rw [not_or] at hc
    show at' + k ≤ _
    omega
theorem text_le {l : List B8} {at' : Nat} (h : at' ≤ l.length) (f : Bool) : (rText l at' f).2.1 ≤ l.length := by
  unfold rText
  split
  · exact h
  · rename_i hc
    rw [not_or] at hc
    show _ + _ ≤ _
    omega
theorem rdP_le {l : List B8} {s : RQ × Nat × Bool} (h : s.2.1 ≤ l.length) (q : Pt) : (rdP l s q).2.1 ≤ l.length := by
  cases q
  · exact take_le h _ _
  · exact take_le h _ _
  · exact take_le h _ _
  · exact take_le h _ _
  · exact take_le (take_le (text_le (text_le (take_le h _ _) _) _) _ _) _ _
/-- the head -/
def hdQ (l : List B8) : RQ × Nat × Bool :=
  (⟨(rTake l 0 false 1).1.setWidth 8, (rTake l (rTake l 0 false 1).2.1 (rTake l 0 false 1).2.2 4).1.setWidth 32, 0#8, 0#16, 0#64, 0#64, 0#8, [], [], 0, 0⟩, (rTake l (rTake l 0 false 1).2.1 (rTake l 0 false 1).2.2 4).2)
def bodyQ' (l : List B8) : RQ × Nat × Bool := (pts (hdQ l).1.k).foldl (rdP l) (hdQ l)
def badHd (l : List B8) : Bool := match l with
  | [] => false
  | x :: _ => !known x
def parseQ (l : List B8) : RQ × Int :=
  if badHd l then (zeroQ, 80) else if rDoneN l.length (bodyQ' l).2.1 (bodyQ' l).2.2 ≠ 0 then (zeroQ, rDoneN l.length (bodyQ' l).2.1 (bodyQ' l).2.2) else if (bodyQ' l).1.right then ((bodyQ' l).1, 0) else (zeroQ, 81)
/-- the first byte -/
theorem hd_kind {l : List B8} (h : badHd l = false) : (hdQ l).1.k.toNat ≤ 8 ∧ (l = [] → (hdQ l).1.k = 0#8 ∧ (hdQ l).2.2 = true) ∧ ∀ x m, l = x :: m → (hdQ l).1.k = x := by
  cases l with
  | nil =>
    have e : rTake ([] : List B8) 0 false 1 = (0#64, 0, true) := if_pos (.inr (by decide))
    refine ⟨by rw [hdQ, e]; decide, fun _ => ⟨by rw [hdQ, e]; rfl, by rw [hdQ, e, take_fail]⟩, fun x m h => (by cases h)⟩
  | cons x m =>
    have e : rTake (x :: m) 0 false 1 = (de 0#64 [x], 1, false) := if_neg (by simp)
    have hx : (hdQ (x :: m)).1.k = x := by
      rw [hdQ, e]
      show (de 0#64 [x]).setWidth 8 = x
      unfold de
      apply BitVec.eq_of_toNat_eq
      simp
    refine ⟨?_, fun h => (by cases h), fun y m' h => (by cases h; exact hx)⟩
    rw [hx]
    have hk : known x = true := by simpa [badHd] using h
    simp only [known, Bool.and_eq_true, decide_eq_true_eq] at hk
    exact hk.2
/-- the parts, as the reference goes over them -/
theorem fold_parts {α : Type} (f : α → Pt → α) (s : α) {k : B8} (h : k.toNat ≤ 8) : (pts k).foldl f s =
    (fun s => if has k .w then f s .w else s) ((fun s => if has k .d then f s .d else s) ((fun s => if has k .p then f s .p else s) ((fun s => if has k .l then f s .l else s) ((fun s => if has k .a then f s .a else s) s)))) := by
  rcases le8 h with rfl | rfl | rfl | rfl | rfl | rfl | rfl | rfl | rfl <;> rfl
end Go.Proofs.YtmochicneilhhaaGreat.rq
namespace Go.Proofs.YtmochicneilhhaaGreat.rq
open Go.RowKit Go.Proofs.YtmochicneilhhaaGreat.kit Go.Proofs.YtmochicneilhhaaGreat.pk
theorem tm_u8 (b : Nat) (p : Value) (w : World) : (callMethod (.iface 228 (.agg #[.pointer (some ⟨b, 0, none⟩)])) "tidepool/request.u8" [p].toArray).run Tryz.prog w = .ok (.enter 226 [.agg #[.pointer (some ⟨b, 0, none⟩)], p].toArray) w := by kernel_rfl
theorem tn_u8 (v : Value) (w : World) : (nilAhead (Tryz.prog.types.size + Made.depth) 228 v "tidepool/request.u8").run Tryz.prog w = .ok (some false) w := by kernel_rfl
theorem tm_u16 (b : Nat) (p : Value) (w : World) : (callMethod (.iface 228 (.agg #[.pointer (some ⟨b, 0, none⟩)])) "tidepool/request.u16" [p].toArray).run Tryz.prog w = .ok (.enter 224 [.agg #[.pointer (some ⟨b, 0, none⟩)], p].toArray) w := by kernel_rfl
theorem tn_u16 (v : Value) (w : World) : (nilAhead (Tryz.prog.types.size + Made.depth) 228 v "tidepool/request.u16").run Tryz.prog w = .ok (some false) w := by kernel_rfl
theorem tm_u64 (b : Nat) (p : Value) (w : World) : (callMethod (.iface 228 (.agg #[.pointer (some ⟨b, 0, none⟩)])) "tidepool/request.u64" [p].toArray).run Tryz.prog w = .ok (.enter 225 [.agg #[.pointer (some ⟨b, 0, none⟩)], p].toArray) w := by kernel_rfl
theorem tn_u64 (v : Value) (w : World) : (nilAhead (Tryz.prog.types.size + Made.depth) 228 v "tidepool/request.u64").run Tryz.prog w = .ok (some false) w := by kernel_rfl
theorem tm_whole (b : Nat) (p : Value) (w : World) : (callMethod (.iface 228 (.agg #[.pointer (some ⟨b, 0, none⟩)])) "tidepool/request.whole" [p].toArray).run Tryz.prog w = .ok (.enter 227 [.agg #[.pointer (some ⟨b, 0, none⟩)], p].toArray) w := by kernel_rfl
theorem tn_whole (v : Value) (w : World) : (nilAhead (Tryz.prog.types.size + Made.depth) 228 v "tidepool/request.whole").run Tryz.prog w = .ok (some false) w := by kernel_rfl
theorem tm_text (b : Nat) (p : Value) (w : World) : (callMethod (.iface 228 (.agg #[.pointer (some ⟨b, 0, none⟩)])) "tidepool/request.text" [p].toArray).run Tryz.prog w = .ok (.enter 223 [.agg #[.pointer (some ⟨b, 0, none⟩)], p].toArray) w := by kernel_rfl
theorem tn_text (v : Value) (w : World) : (nilAhead (Tryz.prog.types.size + Made.depth) 228 v "tidepool/request.text").run Tryz.prog w = .ok (some false) w := by kernel_rfl
attribute [local irreducible] LX CX Yl Gives RetIs Fn
attribute [local irreducible] be de
theorem taker_u8 (b br off : Nat) (cs : List Value) (T : TypeId) (rr : Rs) (hr : rr.Ok) (h : off + 1 ≤ cs.length) : Fn Tryz.prog 226 [.agg #[.pointer (some ⟨br, 0, none⟩)], .pointer (some ⟨b, off, none⟩)] [.blk b cs T, rr.blk br, rr.ro] [b, br]
    fun v Lo => v = .tuple #[] ∧ Lo = [.blk b (setL cs off [.int .u8 ((de 0#64 (rr.got 1)).setWidth 8).toNat]) T, (rr.adv 1).blk br] := by
  refine fn_enter Tryz.func226 rfl rfl (by kernel_rfl) rfl ?_
  intro w0
  repeat (first | (refine isx_call ?_; refine k_call (u8_fn br rr hr) [2, 3] [2] [0, 1, 3] rfl rfl rfl rfl rfl rfl rfl rfl ?_; rintro v_ Lo_ ⟨rfl, rfl⟩) | (refine isx_store ?_; (refine isx_store ?_; refine lx_storeV (E := EV) 2 rfl rfl rfl rfl rfl rfl rfl rfl h rfl (fun _ => trivial) ?_)) | refine wz ?_ | (refine wzb ?_; intro b_) | fail)
  exact bq_end (ret_none rfl) [_, _] (Gives.pick [2, 0] (by decide) rfl) rfl ⟨rfl, rfl⟩
theorem taker_u16 (b br off : Nat) (cs : List Value) (T : TypeId) (rr : Rs) (hr : rr.Ok) (h : off + 1 ≤ cs.length) : Fn Tryz.prog 224 [.agg #[.pointer (some ⟨br, 0, none⟩)], .pointer (some ⟨b, off, none⟩)] [.blk b cs T, rr.blk br, rr.ro] [b, br]
    fun v Lo => v = .tuple #[] ∧ Lo = [.blk b (setL cs off [.int .u16 ((de 0#64 (rr.got 2)).setWidth 16).toNat]) T, (rr.adv 2).blk br] := by
  refine fn_enter Tryz.func224 rfl rfl (by kernel_rfl) rfl ?_
  intro w0
  repeat (first | (refine isx_call ?_; refine k_call (u16_fn br rr hr) [2, 3] [2] [0, 1, 3] rfl rfl rfl rfl rfl rfl rfl rfl ?_; rintro v_ Lo_ ⟨rfl, rfl⟩) | (refine isx_store ?_; (refine isx_store ?_; refine lx_storeV (E := EV) 2 rfl rfl rfl rfl rfl rfl rfl rfl h rfl (fun _ => trivial) ?_)) | refine wz ?_ | (refine wzb ?_; intro b_) | fail)
  exact bq_end (ret_none rfl) [_, _] (Gives.pick [2, 0] (by decide) rfl) rfl ⟨rfl, rfl⟩
theorem taker_u64 (b br off : Nat) (cs : List Value) (T : TypeId) (rr : Rs) (hr : rr.Ok) (h : off + 1 ≤ cs.length) : Fn Tryz.prog 225 [.agg #[.pointer (some ⟨br, 0, none⟩)], .pointer (some ⟨b, off, none⟩)] [.blk b cs T, rr.blk br, rr.ro] [b, br]
    fun v Lo => v = .tuple #[] ∧ Lo = [.blk b (setL cs off [.int .u64 (de 0#64 (rr.got 8)).toNat]) T, (rr.adv 8).blk br] := by
  refine fn_enter Tryz.func225 rfl rfl (by kernel_rfl) rfl ?_
  intro w0
  repeat (first | (refine isx_call ?_; refine k_call (u64_fn br rr hr) [2, 3] [2] [0, 1, 3] rfl rfl rfl rfl rfl rfl rfl rfl ?_; rintro v_ Lo_ ⟨rfl, rfl⟩) | (refine isx_store ?_; (refine isx_store ?_; refine lx_storeV (E := EV) 2 rfl rfl rfl rfl rfl rfl rfl rfl h rfl (fun _ => trivial) ?_)) | refine wz ?_ | (refine wzb ?_; intro b_) | fail)
  exact bq_end (ret_none rfl) [_, _] (Gives.pick [2, 0] (by decide) rfl) rfl ⟨rfl, rfl⟩
theorem taker_whole (b br off : Nat) (cs : List Value) (T : TypeId) (rr : Rs) (hr : rr.Ok) (h : off + 1 ≤ cs.length) : Fn Tryz.prog 227 [.agg #[.pointer (some ⟨br, 0, none⟩)], .pointer (some ⟨b, off, none⟩)] [.blk b cs T, rr.blk br, rr.ro] [b, br]
    fun v Lo => v = .tuple #[] ∧ Lo = [.blk b (setL cs off [.int .i64 (de 0#64 (rr.got 8)).toInt]) T, (rr.adv 8).blk br] := by
  refine fn_enter Tryz.func227 rfl rfl (by kernel_rfl) rfl ?_
  intro w0
  repeat (first | (refine isx_call ?_; refine k_call (int_fn br rr hr) [2, 3] [2] [0, 1, 3] rfl rfl rfl rfl rfl rfl rfl rfl ?_; rintro v_ Lo_ ⟨rfl, rfl⟩) | (refine isx_store ?_; (refine isx_store ?_; refine lx_storeV (E := EV) 2 rfl rfl rfl rfl rfl rfl rfl rfl h rfl (fun _ => trivial) ?_)) | refine wz ?_ | (refine wzb ?_; intro b_) | fail)
  exact bq_end (ret_none rfl) [_, _] (Gives.pick [2, 0] (by decide) rfl) rfl ⟨rfl, rfl⟩
theorem taker_text (b br off : Nat) (cs : List Value) (T : TypeId) (rr : Rs) (hr : rr.Ok) (h : off + 1 ≤ cs.length) : Fn Tryz.prog 223 [.agg #[.pointer (some ⟨br, 0, none⟩)], .pointer (some ⟨b, off, none⟩)] [.blk b cs T, rr.blk br, rr.ro] [b, br]
    fun v Lo => v = .tuple #[] ∧ Lo = [.blk b (setL cs off [.string (sb rr.text)]) T, (rr.textTo).blk br] := by
  refine fn_enter Tryz.func223 rfl rfl (by kernel_rfl) rfl ?_
  intro w0
  repeat (first | (refine isx_call ?_; refine k_call (text_fn br rr hr) [2, 3] [2] [0, 1, 3] rfl rfl rfl rfl rfl rfl rfl rfl ?_; rintro v_ Lo_ ⟨rfl, rfl⟩) | (refine isx_store ?_; (refine isx_store ?_; refine lx_storeV (E := EV) 2 rfl rfl rfl rfl rfl rfl rfl rfl h rfl (fun _ => trivial) ?_)) | refine wz ?_ | (refine wzb ?_; intro b_) | fail)
  exact bq_end (ret_none rfl) [_, _] (Gives.pick [2, 0] (by decide) rfl) rfl ⟨rfl, rfl⟩

set_option maxHeartbeats 16000000 in
theorem visit_taker (b br : Nat) (r : RQ) (rr : Rs) (hr : rr.Ok) (h : r.k.toNat ≤ 8) : Fn Tryz.prog 47 [.pointer (some ⟨b, 0, none⟩), .iface 228 (.agg #[.pointer (some ⟨br, 0, none⟩)])] [.blk b r.cells 52, rr.blk br, rr.ro] [b, br]
    fun v Lo => v = .tuple #[] ∧ Lo = [.blk b ((pts r.k).foldl tkP (r, rr)).1.cells 52, ((pts r.k).foldl tkP (r, rr)).2.blk br] := by
  have hnl := names_len r.k
  have hp := parts_fn r.k h
  refine fn_enter Tryz.func47 rfl rfl (by kernel_rfl) rfl ?_
  intro w0
  repeat (first | (refine isx_call ?_; refine k_gcall (hp) (fun _ hm => in_nil hm) rfl rfl rfl rfl rfl rfl ?_) | (refine isx_range ?_; refine lx_range (E := EV) rfl rfl rfl rfl rfl rfl rfl (fun _ _ => trivial) ?_; intro bi) | refine wz ?_ | (refine wzb ?_; intro b_) | fail)
  refine cx_loop (α := { x : Nat × RQ × Rs // x.1 ≤ (pts r.k).length ∧ x.2 = ((pts r.k).take x.1).foldl tkP (r, rr) ∧ x.2.2.Ok }) (fun x => [(0, none, .pointer (some ⟨b, 0, none⟩)), (1, none, .iface 228 (.agg #[.pointer (some ⟨br, 0, none⟩)])), (11, none, .pointer (some ⟨bi, 0, none⟩))])
    (fun x => [.obj bi (.stringIter (sb (names r.k)) x.1.1), .blk b x.1.2.1.cells 52, x.1.2.2.blk br, x.1.2.2.ro]) (fun x => (pts r.k).length - x.1.1) ⟨(0, r, rr), Nat.zero_le _, rfl, hr⟩ ⟨rfl, rfl, rfl, trivial⟩ (Gives.refl _) ?_
  rintro ⟨⟨i, r1, r0⟩, hi, he, hok⟩
  dsimp only at hi he hok ⊢
  by_cases hlt : i < (pts r.k).length
  · obtain ⟨q, hq⟩ : ∃ q, (pts r.k)[i]? = some q := ⟨_, List.getElem?_eq_getElem hlt⟩
    have hx := dec_ascii (names_get hq) (ltr_lt q)
    have hsz : i < (sb (names r.k)).size := by rw [sb_size, hnl]; exact hlt
    have hnx : tkP (r1, r0) q = ((pts r.k).take (i + 1)).foldl tkP (r, rr) := by rw [fold_take (r, rr) hq, ← he]
    have hok2 : (tkP (r1, r0) q).2.Ok := tkP_ok hok q
    repeat (first | (refine isx_next ?_; refine lx_next 0 rfl rfl rfl rfl rfl rfl rfl hsz hx (fun _ => trivial) ?_) | refine wz ?_ | (refine wzb ?_; intro b_) | fail)
    refine cx_cond rfl (fun _ => ?_) (fun h => absurd h (by decide))
    cases q
    · skip
      repeat (first | refine wz ?_ | (refine wzb ?_; intro b_) | fail)
      refine cx_cond rfl (fun _ => ?_) (fun h => absurd h (by decide))
      repeat (first | refine wz ?_ | (refine wzb ?_; intro b_) | fail)
      refine cx_weakL (L' := [.obj bi (.stringIter (sb (names r.k)) (i + 1)), .blk b r1.cells 52, r0.blk br, r0.ro, (r0.adv 8).ro]) ((hok.der 8 _ 3 rfl).trans (Gives.pick [1, 2, 3, 4, 0] (by decide) rfl)) ?_
      refine cx_draw [7] [] rfl (by kernel_rfl) (Gives.nil _) ?_
      repeat (first | ((first | (apply lx_u; exact rfl) | (apply lx_g; exact rfl; exact rfl)); first | exact yl_makeMeth rfl rfl (by (repeat (first | exact trivial | refine And.intro ?_ ?_ | exact fun _ => rfl | exact fun h => h | exact fun h => (Bool.and_eq_true_iff.1 h).1)); done) (by (repeat (first | exact trivial | refine And.intro ?_ ?_ | exact fun _ => rfl | exact fun h => h | exact fun h => (Bool.and_eq_true_iff.1 h).1)); done) | exact yl_nilMeth rfl (tn_u64 _) (by first | exact fun _ => rfl | exact fun h => h | exact fun h => (Bool.and_eq_true_iff.1 h).1) | fail) | (refine isx_icall ?_; refine k_icall (taker_u64 b br 4 r1.cells _ r0 hok (Nat.le_of_ble_eq_true rfl)) (tm_u64 br _) [1, 2, 3] [1, 2] [0, 3, 4] rfl rfl rfl rfl rfl rfl rfl ?_ (hgs := fun Lo _ => (Gives.right Lo _).trans (Gives.pick [] (by decide) rfl)); rintro v_ Lo_ ⟨rfl, rfl⟩) | refine wz ?_ | (refine wzb ?_; intro b_) | fail)
      exact ⟨⟨(i + 1, tkP (r1, r0) .a), hlt, hnx, hok2⟩, ⟨rfl, rfl, rfl, trivial⟩, Gives.pick [2, 0, 1, 4] (by decide) rfl, by dsimp only; omega⟩
    · skip
      repeat (first | refine wz ?_ | (refine wzb ?_; intro b_) | fail)
      refine cx_cond rfl (fun h => absurd h (by decide)) (fun _ => ?_)
      repeat (first | refine wz ?_ | (refine wzb ?_; intro b_) | fail)
      refine cx_cond rfl (fun _ => ?_) (fun h => absurd h (by decide))
      repeat (first | refine wz ?_ | (refine wzb ?_; intro b_) | fail)
      refine cx_weakL (L' := [.obj bi (.stringIter (sb (names r.k)) (i + 1)), .blk b r1.cells 52, r0.blk br, r0.ro, (r0.adv 8).ro]) ((hok.der 8 _ 3 rfl).trans (Gives.pick [1, 2, 3, 4, 0] (by decide) rfl)) ?_
      refine cx_draw [7] [] rfl (by kernel_rfl) (Gives.nil _) ?_
      repeat (first | ((first | (apply lx_u; exact rfl) | (apply lx_g; exact rfl; exact rfl)); first | exact yl_makeMeth rfl rfl (by (repeat (first | exact trivial | refine And.intro ?_ ?_ | exact fun _ => rfl | exact fun h => h | exact fun h => (Bool.and_eq_true_iff.1 h).1)); done) (by (repeat (first | exact trivial | refine And.intro ?_ ?_ | exact fun _ => rfl | exact fun h => h | exact fun h => (Bool.and_eq_true_iff.1 h).1)); done) | exact yl_nilMeth rfl (tn_u64 _) (by first | exact fun _ => rfl | exact fun h => h | exact fun h => (Bool.and_eq_true_iff.1 h).1) | fail) | (refine isx_icall ?_; refine k_icall (taker_u64 b br 5 r1.cells _ r0 hok (Nat.le_of_ble_eq_true rfl)) (tm_u64 br _) [1, 2, 3] [1, 2] [0, 3, 4] rfl rfl rfl rfl rfl rfl rfl ?_ (hgs := fun Lo _ => (Gives.right Lo _).trans (Gives.pick [] (by decide) rfl)); rintro v_ Lo_ ⟨rfl, rfl⟩) | refine wz ?_ | (refine wzb ?_; intro b_) | fail)
      exact ⟨⟨(i + 1, tkP (r1, r0) .l), hlt, hnx, hok2⟩, ⟨rfl, rfl, rfl, trivial⟩, Gives.pick [2, 0, 1, 4] (by decide) rfl, by dsimp only; omega⟩
    · skip
      repeat (first | refine wz ?_ | (refine wzb ?_; intro b_) | fail)
      refine cx_cond rfl (fun h => absurd h (by decide)) (fun _ => ?_)
      repeat (first | refine wz ?_ | (refine wzb ?_; intro b_) | fail)
      refine cx_cond rfl (fun h => absurd h (by decide)) (fun _ => ?_)
      repeat (first | refine wz ?_ | (refine wzb ?_; intro b_) | fail)
      refine cx_cond rfl (fun _ => ?_) (fun h => absurd h (by decide))
      repeat (first | refine wz ?_ | (refine wzb ?_; intro b_) | fail)
      refine cx_weakL (L' := [.obj bi (.stringIter (sb (names r.k)) (i + 1)), .blk b r1.cells 52, r0.blk br, r0.ro, (r0.adv 1).ro]) ((hok.der 1 _ 3 rfl).trans (Gives.pick [1, 2, 3, 4, 0] (by decide) rfl)) ?_
      refine cx_draw [7] [] rfl (by kernel_rfl) (Gives.nil _) ?_
      repeat (first | ((first | (apply lx_u; exact rfl) | (apply lx_g; exact rfl; exact rfl)); first | exact yl_makeMeth rfl rfl (by (repeat (first | exact trivial | refine And.intro ?_ ?_ | exact fun _ => rfl | exact fun h => h | exact fun h => (Bool.and_eq_true_iff.1 h).1)); done) (by (repeat (first | exact trivial | refine And.intro ?_ ?_ | exact fun _ => rfl | exact fun h => h | exact fun h => (Bool.and_eq_true_iff.1 h).1)); done) | exact yl_nilMeth rfl (tn_u8 _) (by first | exact fun _ => rfl | exact fun h => h | exact fun h => (Bool.and_eq_true_iff.1 h).1) | fail) | (refine isx_icall ?_; refine k_icall (taker_u8 b br 2 r1.cells _ r0 hok (Nat.le_of_ble_eq_true rfl)) (tm_u8 br _) [1, 2, 3] [1, 2] [0, 3, 4] rfl rfl rfl rfl rfl rfl rfl ?_ (hgs := fun Lo _ => (Gives.right Lo _).trans (Gives.pick [] (by decide) rfl)); rintro v_ Lo_ ⟨rfl, rfl⟩) | refine wz ?_ | (refine wzb ?_; intro b_) | fail)
      exact ⟨⟨(i + 1, tkP (r1, r0) .p), hlt, hnx, hok2⟩, ⟨rfl, rfl, rfl, trivial⟩, Gives.pick [2, 0, 1, 4] (by decide) rfl, by dsimp only; omega⟩
    · skip
      repeat (first | refine wz ?_ | (refine wzb ?_; intro b_) | fail)
      refine cx_cond rfl (fun h => absurd h (by decide)) (fun _ => ?_)
      repeat (first | refine wz ?_ | (refine wzb ?_; intro b_) | fail)
      refine cx_cond rfl (fun h => absurd h (by decide)) (fun _ => ?_)
      repeat (first | refine wz ?_ | (refine wzb ?_; intro b_) | fail)
      refine cx_cond rfl (fun h => absurd h (by decide)) (fun _ => ?_)
      repeat (first | refine wz ?_ | (refine wzb ?_; intro b_) | fail)
      refine cx_cond rfl (fun _ => ?_) (fun h => absurd h (by decide))
      repeat (first | refine wz ?_ | (refine wzb ?_; intro b_) | fail)
      refine cx_weakL (L' := [.obj bi (.stringIter (sb (names r.k)) (i + 1)), .blk b r1.cells 52, r0.blk br, r0.ro, (r0.adv 2).ro]) ((hok.der 2 _ 3 rfl).trans (Gives.pick [1, 2, 3, 4, 0] (by decide) rfl)) ?_
      refine cx_draw [7] [] rfl (by kernel_rfl) (Gives.nil _) ?_
      repeat (first | ((first | (apply lx_u; exact rfl) | (apply lx_g; exact rfl; exact rfl)); first | exact yl_makeMeth rfl rfl (by (repeat (first | exact trivial | refine And.intro ?_ ?_ | exact fun _ => rfl | exact fun h => h | exact fun h => (Bool.and_eq_true_iff.1 h).1)); done) (by (repeat (first | exact trivial | refine And.intro ?_ ?_ | exact fun _ => rfl | exact fun h => h | exact fun h => (Bool.and_eq_true_iff.1 h).1)); done) | exact yl_nilMeth rfl (tn_u16 _) (by first | exact fun _ => rfl | exact fun h => h | exact fun h => (Bool.and_eq_true_iff.1 h).1) | fail) | (refine isx_icall ?_; refine k_icall (taker_u16 b br 3 r1.cells _ r0 hok (Nat.le_of_ble_eq_true rfl)) (tm_u16 br _) [1, 2, 3] [1, 2] [0, 3, 4] rfl rfl rfl rfl rfl rfl rfl ?_ (hgs := fun Lo _ => (Gives.right Lo _).trans (Gives.pick [] (by decide) rfl)); rintro v_ Lo_ ⟨rfl, rfl⟩) | refine wz ?_ | (refine wzb ?_; intro b_) | fail)
      exact ⟨⟨(i + 1, tkP (r1, r0) .d), hlt, hnx, hok2⟩, ⟨rfl, rfl, rfl, trivial⟩, Gives.pick [2, 0, 1, 4] (by decide) rfl, by dsimp only; omega⟩
    · skip
      repeat (first | refine wz ?_ | (refine wzb ?_; intro b_) | fail)
      refine cx_cond rfl (fun h => absurd h (by decide)) (fun _ => ?_)
      repeat (first | refine wz ?_ | (refine wzb ?_; intro b_) | fail)
      refine cx_cond rfl (fun h => absurd h (by decide)) (fun _ => ?_)
      repeat (first | refine wz ?_ | (refine wzb ?_; intro b_) | fail)
      refine cx_cond rfl (fun h => absurd h (by decide)) (fun _ => ?_)
      repeat (first | refine wz ?_ | (refine wzb ?_; intro b_) | fail)
      refine cx_cond rfl (fun h => absurd h (by decide)) (fun _ => ?_)
      repeat (first | refine wz ?_ | (refine wzb ?_; intro b_) | fail)
      refine cx_cond rfl (fun _ => ?_) (fun h => absurd h (by decide))
      repeat (first | refine wz ?_ | (refine wzb ?_; intro b_) | fail)
      have o1 := hok.adv 1
      have o2 := Ok_text o1
      have o3 := Ok_text o2
      have o4 := o3.adv 8
      refine cx_weakL (L' := [.obj bi (.stringIter (sb (names r.k)) (i + 1)), .blk b r1.cells 52, r0.blk br, r0.ro, (r0.adv 1).ro, (r0.adv 1).textTo.ro, (r0.adv 1).textTo.textTo.ro, ((r0.adv 1).textTo.textTo.adv 8).ro, (((r0.adv 1).textTo.textTo.adv 8).adv 8).ro])
        ((hok.der 1 _ 3 rfl).trans ((o1.derText _ 0 rfl).trans ((o2.derText _ 0 rfl).trans ((o3.der 8 _ 0 rfl).trans ((o4.der 8 _ 0 rfl).trans (Gives.pick [5, 6, 7, 8, 4, 3, 2, 1, 0] (by decide) rfl)))))) ?_
      refine cx_draw [7] [] rfl (by kernel_rfl) (Gives.nil _) ?_
      repeat (first | ((first | (apply lx_u; exact rfl) | (apply lx_g; exact rfl; exact rfl)); first | exact yl_makeMeth rfl rfl (by (repeat (first | exact trivial | refine And.intro ?_ ?_ | exact fun _ => rfl | exact fun h => h | exact fun h => (Bool.and_eq_true_iff.1 h).1)); done) (by (repeat (first | exact trivial | refine And.intro ?_ ?_ | exact fun _ => rfl | exact fun h => h | exact fun h => (Bool.and_eq_true_iff.1 h).1)); done) | exact yl_nilMeth rfl (tn_u8 _) (by first | exact fun _ => rfl | exact fun h => h | exact fun h => (Bool.and_eq_true_iff.1 h).1) | fail) | (refine isx_icall ?_; refine k_icall (taker_u8 b br 6 r1.cells _ r0 hok (Nat.le_of_ble_eq_true rfl)) (tm_u8 br _) [1, 2, 3] [1, 2] [0, 4, 5, 6, 7, 8] rfl rfl rfl rfl rfl rfl rfl ?_ (hgs := fun Lo _ => (Gives.right Lo _).trans (Gives.pick [] (by decide) rfl)); rintro v_ Lo_ ⟨rfl, rfl⟩) | refine wz ?_ | (refine wzb ?_; intro b_) | fail)
      refine cx_draw [7] [] rfl (by kernel_rfl) (Gives.nil _) ?_
      repeat (first | ((first | (apply lx_u; exact rfl) | (apply lx_g; exact rfl; exact rfl)); first | exact yl_makeMeth rfl rfl (by (repeat (first | exact trivial | refine And.intro ?_ ?_ | exact fun _ => rfl | exact fun h => h | exact fun h => (Bool.and_eq_true_iff.1 h).1)); done) (by (repeat (first | exact trivial | refine And.intro ?_ ?_ | exact fun _ => rfl | exact fun h => h | exact fun h => (Bool.and_eq_true_iff.1 h).1)); done) | exact yl_nilMeth rfl (tn_text _) (by first | exact fun _ => rfl | exact fun h => h | exact fun h => (Bool.and_eq_true_iff.1 h).1) | fail) | (refine isx_icall ?_; refine k_icall (taker_text b br 7 _ _ (r0.adv 1) o1 (Nat.le_of_ble_eq_true rfl)) (tm_text br _) [0, 1, 3] [0, 1] [2, 4, 5, 6, 7] rfl rfl rfl rfl rfl rfl rfl ?_ (hgs := fun Lo _ => (Gives.right Lo _).trans (Gives.pick [] (by decide) rfl)); rintro v_ Lo_ ⟨rfl, rfl⟩) | refine wz ?_ | (refine wzb ?_; intro b_) | fail)
      refine cx_draw [7] [] rfl (by kernel_rfl) (Gives.nil _) ?_
      repeat (first | ((first | (apply lx_u; exact rfl) | (apply lx_g; exact rfl; exact rfl)); first | exact yl_makeMeth rfl rfl (by (repeat (first | exact trivial | refine And.intro ?_ ?_ | exact fun _ => rfl | exact fun h => h | exact fun h => (Bool.and_eq_true_iff.1 h).1)); done) (by (repeat (first | exact trivial | refine And.intro ?_ ?_ | exact fun _ => rfl | exact fun h => h | exact fun h => (Bool.and_eq_true_iff.1 h).1)); done) | exact yl_nilMeth rfl (tn_text _) (by first | exact fun _ => rfl | exact fun h => h | exact fun h => (Bool.and_eq_true_iff.1 h).1) | fail) | (refine isx_icall ?_; refine k_icall (taker_text b br 8 _ _ (r0.adv 1).textTo o2 (Nat.le_of_ble_eq_true rfl)) (tm_text br _) [0, 1, 3] [0, 1] [2, 4, 5, 6] rfl rfl rfl rfl rfl rfl rfl ?_ (hgs := fun Lo _ => (Gives.right Lo _).trans (Gives.pick [] (by decide) rfl)); rintro v_ Lo_ ⟨rfl, rfl⟩) | refine wz ?_ | (refine wzb ?_; intro b_) | fail)
      refine cx_draw [7] [] rfl (by kernel_rfl) (Gives.nil _) ?_
      repeat (first | ((first | (apply lx_u; exact rfl) | (apply lx_g; exact rfl; exact rfl)); first | exact yl_makeMeth rfl rfl (by (repeat (first | exact trivial | refine And.intro ?_ ?_ | exact fun _ => rfl | exact fun h => h | exact fun h => (Bool.and_eq_true_iff.1 h).1)); done) (by (repeat (first | exact trivial | refine And.intro ?_ ?_ | exact fun _ => rfl | exact fun h => h | exact fun h => (Bool.and_eq_true_iff.1 h).1)); done) | exact yl_nilMeth rfl (tn_whole _) (by first | exact fun _ => rfl | exact fun h => h | exact fun h => (Bool.and_eq_true_iff.1 h).1) | fail) | (refine isx_icall ?_; refine k_icall (taker_whole b br 9 _ _ (r0.adv 1).textTo.textTo o3 (Nat.le_of_ble_eq_true rfl)) (tm_whole br _) [0, 1, 3] [0, 1] [2, 4, 5] rfl rfl rfl rfl rfl rfl rfl ?_ (hgs := fun Lo _ => (Gives.right Lo _).trans (Gives.pick [] (by decide) rfl)); rintro v_ Lo_ ⟨rfl, rfl⟩) | refine wz ?_ | (refine wzb ?_; intro b_) | fail)
      refine cx_draw [7] [] rfl (by kernel_rfl) (Gives.nil _) ?_
      repeat (first | ((first | (apply lx_u; exact rfl) | (apply lx_g; exact rfl; exact rfl)); first | exact yl_makeMeth rfl rfl (by (repeat (first | exact trivial | refine And.intro ?_ ?_ | exact fun _ => rfl | exact fun h => h | exact fun h => (Bool.and_eq_true_iff.1 h).1)); done) (by (repeat (first | exact trivial | refine And.intro ?_ ?_ | exact fun _ => rfl | exact fun h => h | exact fun h => (Bool.and_eq_true_iff.1 h).1)); done) | exact yl_nilMeth rfl (tn_whole _) (by first | exact fun _ => rfl | exact fun h => h | exact fun h => (Bool.and_eq_true_iff.1 h).1) | fail) | (refine isx_icall ?_; refine k_icall (taker_whole b br 10 _ _ ((r0.adv 1).textTo.textTo.adv 8) o4 (Nat.le_of_ble_eq_true rfl)) (tm_whole br _) [0, 1, 3] [0, 1] [2, 4] rfl rfl rfl rfl rfl rfl rfl ?_ (hgs := fun Lo _ => (Gives.right Lo _).trans (Gives.pick [] (by decide) rfl)); rintro v_ Lo_ ⟨rfl, rfl⟩) | refine wz ?_ | (refine wzb ?_; intro b_) | fail)
      exact ⟨⟨(i + 1, tkP (r1, r0) .w), hlt, hnx, hok2⟩, ⟨rfl, rfl, rfl, trivial⟩, Gives.pick [2, 0, 1, 3] (by decide) rfl, by dsimp only; omega⟩
  · obtain rfl : i = (pts r.k).length := by omega
    have hsz : ¬ (pts r.k).length < (sb (names r.k)).size := by rw [sb_size, hnl]; exact Nat.lt_irrefl _
    rw [List.take_length] at he
    rw [← he]
    repeat (first | (refine isx_next ?_; refine lx_nextEnd 0 rfl rfl rfl rfl rfl rfl rfl hsz ?_) | refine wz ?_ | (refine wzb ?_; intro b_) | fail)
    refine cx_cond rfl (fun h => absurd h (by decide)) (fun _ => ?_)
    repeat (first | refine wz ?_ | (refine wzb ?_; intro b_) | fail)
    exact bq_end (ret_none rfl) [_, _] (Gives.pick [1, 2] (by decide) rfl) rfl ⟨rfl, rfl⟩

end Go.Proofs.YtmochicneilhhaaGreat.rq
namespace Go.Proofs.YtmochicneilhhaaGreat.rq
open Go.RowKit Go.Proofs.YtmochicneilhhaaGreat.kit Go.Proofs.YtmochicneilhhaaGreat.pk
section
attribute [local irreducible] de be
abbrev rs0 (A : Option Addr) (c : Nat) (l : List B8) : Rs := ⟨A, l.length, c, l, 0⟩
abbrev rs2 (A : Option Addr) (c : Nat) (l : List B8) : Rs := ((rs0 A c l).adv 1).adv 4
abbrev hdR (A : Option Addr) (c : Nat) (l : List B8) : RQ := ⟨(de 0#64 ((rs0 A c l).got 1)).setWidth 8, (de 0#64 (((rs0 A c l).adv 1).got 4)).setWidth 32, 0#8, 0#16, 0#64, 0#64, 0#8, [], [], 0, 0⟩
def doneQ (l : List B8) : Int := rDoneN l.length (bodyQ' l).2.1 (bodyQ' l).2.2
theorem parse_state (A : Option Addr) (c : Nat) (l : List B8) (hc : l.length ≤ c ∧ c ≤ 9223372036854775807) (hb : badHd l = false) : (rs2 A c l).Ok ∧ (hdR A c l).k.toNat ≤ 8 ∧
    ((rs2 A c l).e = 0 → ((pts (hdR A c l).k).foldl tkP (hdR A c l, rs2 A c l)).2.done = doneQ l ∧ ((pts (hdR A c l).k).foldl tkP (hdR A c l, rs2 A c l)).1 = (bodyQ' l).1) ∧ ((rs2 A c l).e ≠ 0 → (rs2 A c l).done = doneQ l ∧ doneQ l ≠ 0) := by
  have h0 := Rel.start A l.length c l rfl hc
  obtain ⟨h1, e1⟩ := h0.num 1
  obtain ⟨h2, e2⟩ := h1.num 4
  have er : hdR A c l = (hdQ l).1 := by simp only [hdR, hdQ, e1, e2]
  have hk := (hd_kind hb).1
  refine ⟨h2.ok, by rw [er]; exact hk, fun he => ?_, fun he => ?_⟩
  · obtain ⟨f1, f2⟩ := fold_rel (pts (hdR A c l).k) (r := hdR A c l) h2
    have hq : (hdR A c l, (rTake l (rTake l 0 false 1).2.1 (rTake l 0 false 1).2.2 4).2.1, (rTake l (rTake l 0 false 1).2.1 (rTake l 0 false 1).2.2 4).2.2) = hdQ l := by rw [er]; rfl
    rw [hq] at f1 f2
    have ek : (hdR A c l).k = (hdQ l).1.k := by rw [er]
    refine ⟨?_, ?_⟩
    · rw [f2.done, ek]; rfl
    · rw [f1, ek]; rfl
  · have hf : (hdQ l).2.2 = true := by
      have := h2.err
      cases hf : (rTake l (rTake l 0 false 1).2.1 (rTake l 0 false 1).2.2 4).2.2 with
      | true => exact hf
      | false =>
        rw [hf] at this
        exact absurd this he
    have hs : hdQ l = ((hdQ l).1, (hdQ l).2.1, true) := by rw [← hf]
    have hbd : (bodyQ' l).2 = ((hdQ l).2.1, true) := by
      unfold bodyQ'
      rw [hs]
      exact fold_fail l _ _ _
    have hd : doneQ l = 20 := by unfold doneQ; rw [hbd]; exact if_pos rfl
    refine ⟨?_, by rw [hd]; decide⟩
    rw [h2.done, hd]
    have : (rTake l (rTake l 0 false 1).2.1 (rTake l 0 false 1).2.2 4).2.2 = true := hf
    rw [this]
    exact if_pos rfl
theorem parseQ_bad {l : List B8} (h : badHd l = true) : parseQ l = (zeroQ, 80) := by rw [parseQ, if_pos h]
theorem parseQ_done {l : List B8} (h : badHd l = false) (hd : doneQ l ≠ 0) : parseQ l = (zeroQ, doneQ l) := by rw [parseQ, if_neg (by rw [h]; simp)]; exact if_pos hd
theorem parseQ_wrong {l : List B8} (h : badHd l = false) (hd : doneQ l = 0) (hr : (bodyQ' l).1.right = false) : parseQ l = (zeroQ, 81) := by
  rw [parseQ, if_neg (by rw [h]; simp), if_neg (by have : rDoneN l.length (bodyQ' l).2.1 (bodyQ' l).2.2 = 0 := hd; rw [this]; simp), hr]; rfl
theorem parseQ_ok {l : List B8} (h : badHd l = false) (hd : doneQ l = 0) (hr : (bodyQ' l).1.right = true) : parseQ l = ((bodyQ' l).1, 0) := by
  rw [parseQ, if_neg (by rw [h]; simp), if_neg (by have : rDoneN l.length (bodyQ' l).2.1 (bodyQ' l).2.2 = 0 := hd; rw [this]; simp), hr]; rfl
end
attribute [local irreducible] LX CX Yl Gives RetIs Fn
attribute [local irreducible] be de

set_option maxHeartbeats 16000000 in
theorem parse_fn (A : Option Addr) (n c : Nat) (l : List B8) (hl : l.length = n) (hn : n ≤ 1000000) (hc : n ≤ c) : Fn Tryz.prog 140 [.slice A n c] [.ro A n 1 (bvs l)] [] fun v Lo => v = .tuple #[(parseQ l).1.val, .int .i64 (parseQ l).2] ∧ Lo = [] := by
  subst hl
  refine fn_enter Tryz.func140 rfl rfl (by kernel_rfl) rfl ?_
  intro w0
  refine cx_seq ?_
  refine cx_region ?_
  repeat (first | refine wzo ?_ | (refine wzb ?_; intro b_) | fail)
  generalize b_ = b2
  refine cx_seq ?_
  refine cx_to (α := { u : Unit // badHd l = false }) (fun _ => [(0, none, .slice A l.length c), (2, none, .pointer (some ⟨b2, 0, none⟩))]) (fun _ => [.blk b2 zeroQ.cells 52, .ro A l.length 1 (bvs l)]) ?_ ?_
  · cases l with
    | nil =>
      repeat (first | ((first | (apply lx_gt; exact rfl; exact rfl; exact rfl) | (apply lx_u; exact rfl) | (apply lx_g; exact rfl; exact rfl)); first | (apply isy_bin; exact yl_false (yl_op (E := EV) rfl) (fun _ => rfl)) | fail) | refine wzf ?_ | (refine wzb ?_; intro b_) | fail)
      refine cx_cond rfl (fun h => absurd h (by decide)) (fun _ => ?_)
      repeat (first | refine wz ?_ | (refine wzb ?_; intro b_) | fail)
      exact ⟨⟨(), rfl⟩, ⟨rfl, rfl, trivial⟩, Gives.refl _⟩
    | cons x m =>
      have hx0 : (bvs (x :: m))[mulI 0 1]? = some (bv x) := rfl
      have h0 : decide (((x :: m).length : Int) > 0) = true := decide_eq_true (by rw [List.length_cons]; omega)
      have hpos : 0 < (x :: m).length := by rw [List.length_cons]; omega
      have hkf := known_fn x
      cases hk : known x with
      | false =>
        rw [hk] at hkf
        rw [parseQ_bad (by simp [badHd, hk])]
        repeat (first | ((first | (apply lx_gt; exact rfl; exact rfl; exact rfl) | (apply lx_u; exact rfl) | (apply lx_g; exact rfl; exact rfl)); first | (apply isy_bin; exact yl_true (yl_op (E := EV) rfl) (fun _ => h0)) | (apply isy_indexAddr; exact q_ix 1 rfl rfl rfl rfl rfl) | (apply isy_load; exact q_li 1 rfl rfl rfl rfl hx0) | fail) | (refine isx_call ?_; refine lx_gcallt (hkf) (fun _ hm => in_nil hm) rfl rfl rfl rfl rfl rfl rfl ?_) | refine wzf ?_ | (refine wzb ?_; intro b_) | fail)
        refine cx_cond rfl (fun _ => ?_) (fun h => absurd h (by decide))
        repeat (first | refine wz ?_ | (refine wzb ?_; intro b_) | fail)
        exact bq_ret (ret_cell_tmp (E := EV) 0 rfl rfl rfl rfl rfl (fun _ => Nat.le_of_ble_eq_true rfl) rfl) [] (Gives.nil _) rfl ⟨rfl, rfl⟩
      | true =>
        rw [hk] at hkf
        repeat (first | ((first | (apply lx_gt; exact rfl; exact rfl; exact rfl) | (apply lx_u; exact rfl) | (apply lx_g; exact rfl; exact rfl)); first | (apply isy_bin; exact yl_true (yl_op (E := EV) rfl) (fun _ => h0)) | (apply isy_indexAddr; exact q_ix 1 rfl rfl rfl rfl rfl) | (apply isy_load; exact q_li 1 rfl rfl rfl rfl hx0) | fail) | (refine isx_call ?_; refine lx_gcallt (hkf) (fun _ hm => in_nil hm) rfl rfl rfl rfl rfl rfl rfl ?_) | refine wzf ?_ | (refine wzb ?_; intro b_) | fail)
        refine cx_cond rfl (fun h => absurd h (by decide)) (fun _ => ?_)
        repeat (first | refine wz ?_ | (refine wzb ?_; intro b_) | fail)
        exact ⟨⟨(), by simp [badHd, hk]⟩, ⟨rfl, rfl, trivial⟩, Gives.refl _⟩
  rintro ⟨_, hb⟩
  repeat (first | (refine isx_call ?_; (refine isx_call ?_; refine lx_call0 (of_fn A l.length c l rfl (by omega) hc) ((fun w hm => in_ro (row_ro 1 rfl hm) (in_nil hm) rfl)) rfl rfl rfl rfl rfl rfl rfl rfl ?_; rintro v_ Lo_ ⟨bR, A', c', rfl, rfl⟩)) | refine wz ?_ | (refine wzb ?_; intro b_) | fail)
  refine cx_fact (fun w hm => own_cap 2 hm rfl) fun hc' => ?_
  generalize b_ = b4
  obtain ⟨hok2, hk8, hyes, hno⟩ := parse_state A' c' l hc' hb
  have hok0 : (rs0 A' c' l).Ok := ⟨rfl, hc'.1, hc'.2⟩
  have hok1 := hok0.adv 1
  have ro0 : (rs0 A' c' l).ro = .ro A' l.length 1 (bvs l) := rfl
  refine cx_weakL (L' := [.blk b4 [.pointer (some ⟨bR, 0, none⟩)] 228, (rs0 A' c' l).blk bR, (rs0 A' c' l).ro, ((rs0 A' c' l).adv 1).ro, (rs2 A' c' l).ro, .blk b2 zeroQ.cells 52])
    ((Gives.ownro 2 rfl).trans ((Gives.pick [0, 1, 2, 3] (by decide) rfl).trans ((hok0.der 1 _ 2 rfl).trans ((hok1.der 4 _ 0 rfl).trans (Gives.pick [2, 3, 4, 1, 0, 5] (by decide) rfl))))) ?_
  have hu1 := u8_fn bR (rs0 A' c' l) hok0
  have hu2 := u32_fn bR ((rs0 A' c' l).adv 1) hok1
  have hv := fun b => visit_taker b bR (hdR A' c' l) (rs2 A' c' l) hok2 hk8
  have hcells : RQ.cells (hdR A' c' l) = [.int .u8 ((de 0#64 ((rs0 A' c' l).got 1)).setWidth 8).toNat, .int .u32 ((de 0#64 (((rs0 A' c' l).adv 1).got 4)).setWidth 32).toNat, .int .u8 0, .int .u16 0, .int .u64 0, .int .u64 0, .int .u8 0, .string (sb []), .string (sb []), .int .i64 0, .int .i64 0] := rfl
  refine cx_to (α := Nat) (fun b5 => [(2, none, .pointer (some ⟨b2, 0, none⟩)), (4, none, .pointer (some ⟨b4, 0, none⟩)), (5, none, .pointer (some ⟨b5, 0, none⟩))])
    (fun b5 => [.blk b5 (hdR A' c' l).cells 52, .blk b4 [.pointer (some ⟨bR, 0, none⟩)] 228, (rs2 A' c' l).blk bR, (rs2 A' c' l).ro, .blk b2 zeroQ.cells 52]) ?_ ?_
  · refine cx_float [2, 5, 7, 8] [0, 1, 3, 4] 7 [⟨2, [2], [0], [7, 2, 5, 6, 8], [0, 1, 2, 4]⟩, ⟨5, [5], [0], [7, 5, 6, 8], [0, 1, 3]⟩] [7, 6, 8] [0, 2] [.blk b4 [.pointer (some ⟨bR, 0, none⟩)] 228] rfl (by kernel_rfl) (by kernel_rfl) (by kernel_rfl) (by kernel_rfl) (Gives.pick [0] (by decide) rfl) ?_
    repeat (first | refine wz ?_ | (refine wzb ?_; intro b_) | fail)
    refine ⟨Gives.pick [0] (by decide) rfl, ?_, ?_⟩
    · repeat (first | (refine isx_call ?_; refine k_call (hu1) [1, 2] [1] [0, 2, 3, 4, 5] rfl rfl rfl rfl rfl rfl rfl rfl ?_ (hgs := fun Lo _ => (Gives.right Lo _).trans (Gives.pick [0] (by decide) rfl)); rintro v_ Lo_ ⟨rfl, rfl⟩) | refine wz ?_ | (refine wzb ?_; intro b_) | fail)
      refine ⟨Gives.pick [1] (by decide) rfl, ?_, ?_⟩
      · repeat (first | (refine isx_call ?_; refine k_call (hu2) [0, 3] [0] [1, 2, 3, 4, 5] rfl rfl rfl rfl rfl rfl rfl rfl ?_ (hgs := fun Lo _ => (Gives.right Lo _).trans (Gives.pick [0] (by decide) rfl)); rintro v_ Lo_ ⟨rfl, rfl⟩) | refine wz ?_ | (refine wzb ?_; intro b_) | fail)
        refine ⟨Gives.pick [1] (by decide) rfl, ?_⟩
        repeat (first | (refine isx_store ?_; refine gS 0 rfl rfl rfl rfl rfl rfl rfl rfl rfl rfl ?_ (hgs := fun _ => Gives.pick [2] (by decide) rfl)) | refine wz ?_ | (refine wzb ?_; intro b_) | fail)
        exact ⟨_, ⟨rfl, rfl, rfl, trivial⟩, Gives.pick [0, 2, 1, 5, 6] (by decide) rfl⟩
      · repeat (first | (refine isx_call ?_; refine k_call (hu2) [1, 4] [1] [0, 2, 3, 4, 5, 6] rfl rfl rfl rfl rfl rfl rfl rfl ?_ (hgs := fun Lo _ => (Gives.right Lo _).trans (Gives.pick [1] (by decide) rfl)); rintro v_ Lo_ ⟨rfl, rfl⟩) | (refine isx_store ?_; refine gS 1 rfl rfl rfl rfl rfl rfl rfl rfl rfl rfl ?_ (hgs := fun _ => Gives.pick [2] (by decide) rfl)) | refine wz ?_ | (refine wzb ?_; intro b_) | fail)
        exact ⟨_, ⟨rfl, rfl, rfl, trivial⟩, Gives.pick [1, 2, 0, 5, 6] (by decide) rfl⟩
    · repeat (first | (refine isx_call ?_; refine k_call (hu1) [2, 3] [2] [0, 1, 3, 4, 5, 6] rfl rfl rfl rfl rfl rfl rfl rfl ?_ (hgs := fun Lo _ => (Gives.right Lo _).trans (Gives.pick [1] (by decide) rfl)); rintro v_ Lo_ ⟨rfl, rfl⟩) | (refine isx_call ?_; refine k_call (hu2) [0, 4] [0] [1, 2, 3, 4, 5, 6] rfl rfl rfl rfl rfl rfl rfl rfl ?_ (hgs := fun Lo _ => (Gives.right Lo _).trans (Gives.pick [1] (by decide) rfl)); rintro v_ Lo_ ⟨rfl, rfl⟩) | (refine isx_store ?_; refine gS 1 rfl rfl rfl rfl rfl rfl rfl rfl rfl rfl ?_ (hgs := fun _ => Gives.pick [2] (by decide) rfl)) | refine wz ?_ | (refine wzb ?_; intro b_) | fail)
      exact ⟨_, ⟨rfl, rfl, rfl, trivial⟩, Gives.pick [1, 2, 0, 5, 6] (by decide) rfl⟩
  intro b5
  clear hu1 hu2 hcells hok0 hok1 ro0
  generalize hdR A' c' l = r0 at *
  generalize rs2 A' c' l = rr2 at *
  repeat (first | (refine isx_call ?_; refine k_gcall (err_fn bR rr2) ((fun w hm => in_ro (row_blk 2 rfl rfl hm) (in_nil hm) rfl)) rfl rfl rfl rfl rfl rfl ?_) | refine wz ?_ | (refine wzb ?_; intro b_) | fail)
  refine cx_to (α := { x : RQ × Rs // x.2.done = doneQ l ∧ (doneQ l = 0 → x.1 = (bodyQ' l).1) }) (fun _ => [(2, none, .pointer (some ⟨b2, 0, none⟩)), (4, none, .pointer (some ⟨b4, 0, none⟩)), (5, none, .pointer (some ⟨b5, 0, none⟩))])
    (fun x => [.blk b5 x.1.1.cells 52, x.1.2.blk bR, .blk b4 [.pointer (some ⟨bR, 0, none⟩)] 228, .blk b2 zeroQ.cells 52]) ?_ ?_
  · refine cx_cond rfl (fun h => ?_) (fun h => ?_)
    · have he : rr2.e = 0 := by simpa using h
      obtain ⟨hd, hr1⟩ := hyes he
      generalize (pts r0.k).foldl tkP (r0, rr2) = fin at *
      obtain ⟨r1, rr3⟩ := fin
      repeat (first | (refine isx_call ?_; refine k_call (hv b5) [0, 2, 3] [0, 2] [1, 3, 4] rfl rfl rfl rfl rfl rfl rfl rfl ?_; rintro v_ Lo_ ⟨rfl, rfl⟩) | refine wz ?_ | (refine wzb ?_; intro b_) | fail)
      exact ⟨⟨(r1, rr3), hd, fun _ => hr1⟩, ⟨rfl, rfl, rfl, trivial⟩, Gives.pick [0, 1, 2, 4] (by decide) rfl⟩
    · have he : rr2.e ≠ 0 := by simpa using h
      obtain ⟨hd, hd0⟩ := hno he
      repeat (first | refine wz ?_ | (refine wzb ?_; intro b_) | fail)
      exact ⟨⟨(r0, rr2), hd, fun h0 => absurd h0 hd0⟩, ⟨rfl, rfl, rfl, trivial⟩, Gives.pick [0, 2, 1, 4] (by decide) rfl⟩
  rintro ⟨⟨r1, rr3⟩, hd, hr1⟩
  dsimp only at hd hr1 ⊢
  clear hyes hno hv hok2 hk8
  have hdf := done_fn bR rr3
  rw [hd] at hdf
  have hrf := right_fn r1
  by_cases hd0 : doneQ l = 0
  · have e0 : (doneQ l != 0) = false := by rw [hd0]; rfl
    have hr1 := hr1 hd0
    rw [hr1] at hrf
    cases hr : (bodyQ' l).1.right with
    | false =>
      rw [hr] at hrf
      rw [parseQ_wrong hb hd0 hr]
      rw [hr1]
      repeat (first | ((first | (apply lx_gt; exact rfl; exact rfl; exact rfl) | (apply lx_u; exact rfl) | (apply lx_g; exact rfl; exact rfl)); first | (apply isy_bin_neq; exact yl_false (yl_op (E := EV) rfl) (fun _ => e0)) | fail) | (refine isx_call ?_; refine lx_gcallt (hdf) ((fun w hm => in_ro (row_blk 1 rfl rfl hm) (in_nil hm) rfl)) rfl rfl rfl rfl rfl rfl rfl ?_) | refine wzf ?_ | (refine wzb ?_; intro b_) | fail)
      refine cx_cond rfl (fun h => absurd h (by decide)) (fun _ => ?_)
      repeat (first | (refine isx_call ?_; refine lx_gcallt (hrf) (fun _ hm => in_nil hm) rfl rfl rfl rfl rfl rfl rfl ?_) | refine wzf ?_ | (refine wzb ?_; intro b_) | fail)
      refine cx_cond rfl (fun _ => ?_) (fun h => absurd h (by decide))
      repeat (first | refine wz ?_ | (refine wzb ?_; intro b_) | fail)
      exact bq_ret (ret_cell_tmp (E := EV) 3 rfl rfl rfl rfl rfl (fun _ => Nat.le_of_ble_eq_true rfl) rfl) [] (Gives.nil _) rfl ⟨rfl, rfl⟩
    | true =>
      rw [hr] at hrf
      rw [parseQ_ok hb hd0 hr]
      rw [hr1]
      repeat (first | ((first | (apply lx_gt; exact rfl; exact rfl; exact rfl) | (apply lx_u; exact rfl) | (apply lx_g; exact rfl; exact rfl)); first | (apply isy_bin_neq; exact yl_false (yl_op (E := EV) rfl) (fun _ => e0)) | fail) | (refine isx_call ?_; refine lx_gcallt (hdf) ((fun w hm => in_ro (row_blk 1 rfl rfl hm) (in_nil hm) rfl)) rfl rfl rfl rfl rfl rfl rfl ?_) | refine wzf ?_ | (refine wzb ?_; intro b_) | fail)
      refine cx_cond rfl (fun h => absurd h (by decide)) (fun _ => ?_)
      repeat (first | (refine isx_call ?_; refine lx_gcallt (hrf) (fun _ hm => in_nil hm) rfl rfl rfl rfl rfl rfl rfl ?_) | refine wzf ?_ | (refine wzb ?_; intro b_) | fail)
      refine cx_cond rfl (fun h => absurd h (by decide)) (fun _ => ?_)
      repeat (first | refine wz ?_ | (refine wzb ?_; intro b_) | fail)
      exact bq_ret (ret_cell_tmp (E := EV) 3 rfl rfl rfl rfl rfl (fun _ => Nat.le_of_ble_eq_true rfl) rfl) [] (Gives.nil _) rfl ⟨rfl, rfl⟩
  · have e0 : (doneQ l != 0) = true := by simp [hd0]
    rw [parseQ_done hb hd0]
    repeat (first | ((first | (apply lx_gt; exact rfl; exact rfl; exact rfl) | (apply lx_u; exact rfl) | (apply lx_g; exact rfl; exact rfl)); first | (apply isy_bin_neq; exact yl_true (yl_op (E := EV) rfl) (fun _ => e0)) | fail) | (refine isx_call ?_; refine lx_gcallt (hdf) ((fun w hm => in_ro (row_blk 1 rfl rfl hm) (in_nil hm) rfl)) rfl rfl rfl rfl rfl rfl rfl ?_) | refine wzf ?_ | (refine wzb ?_; intro b_) | fail)
    refine cx_cond rfl (fun _ => ?_) (fun h => absurd h (by decide))
    repeat (first | refine wz ?_ | (refine wzb ?_; intro b_) | fail)
    exact bq_ret (ret_cell_tmp (E := EV) 3 rfl rfl rfl rfl rfl (fun _ => Nat.le_of_ble_eq_true rfl) rfl) [] (Gives.nil _) rfl ⟨rfl, rfl⟩

end Go.Proofs.YtmochicneilhhaaGreat.rq
