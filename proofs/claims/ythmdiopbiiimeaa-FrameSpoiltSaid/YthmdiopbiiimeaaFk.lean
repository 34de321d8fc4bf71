/- frames: what is put is taken as it was; one digit another one: plainly. -/
import Derived.Test.YthmdiopbiiimeaaFf
namespace Go.Proofs.Ythmdiopbiiimeaa.fr
open Go.RowKit Go.Proofs.Ythmdiopbiiimeaa.kit Go.Proofs.Ythmdiopbiiimeaa.pk Go.Proofs.Ythmdiopbiiimeaa.chk Go.Proofs.Ythmdiopbiiimeaa.crc
theorem flip_left (x r : List B8) (q : Nat) (h : q < 8 * x.length) : crc.flip (x ++ r) q = crc.flip x q ++ r := by
  have hq : q / 8 < x.length := by omega
  unfold crc.flip
  rw [List.set_append_left _ _ hq, List.getD_eq_getElem?_getD, List.getD_eq_getElem?_getD, List.getElem?_append_left hq]
theorem flip_right (x r : List B8) (q : Nat) : crc.flip (x ++ r) (8 * x.length + q) = x ++ crc.flip r q := by
  have h1 : (8 * x.length + q) / 8 = x.length + q / 8 := by omega
  have h2 : (8 * x.length + q) % 8 = q % 8 := by omega
  unfold crc.flip
  rw [h1, h2, List.set_append_right _ _ (by omega), Nat.add_sub_cancel_left, List.getD_eq_getElem?_getD, List.getD_eq_getElem?_getD, List.getElem?_append_right (by omega), Nat.add_sub_cancel_left]
theorem bit_ne (x : B8) (j : Nat) (hj : j < 8) : x ^^^ (1#8 <<< j) ≠ x := by
  intro he
  have h1 := congrArg (x ^^^ ·) he
  simp only [← BitVec.xor_assoc, BitVec.xor_self, BitVec.zero_xor] at h1
  have h2 : ∀ j : Fin 8, 1#8 <<< j.val ≠ 0#8 := by decide
  exact h2 ⟨j, hj⟩ h1
theorem flip_ne (y : List B8) (q : Nat) (h : q < 8 * y.length) : crc.flip y q ≠ y := by
  intro he
  have hq : q / 8 < y.length := by omega
  have h1 := congrArg (fun l => l[q / 8]?) he
  unfold crc.flip at h1
  simp only [List.getElem?_set_self hq, List.getD_eq_getElem?_getD, List.getElem?_eq_getElem hq, Option.getD_some] at h1
  exact bit_ne _ _ (Nat.mod_lt _ (by decide)) (Option.some.inj h1)
theorem sum_flip {b : List B8} {q : Nat} (h : q < 8 * (b.length + 4)) : ¬ sumL ((crc.flip (b ++ sumL b) q).take b.length) = (crc.flip (b ++ sumL b) q).drop b.length := by
  by_cases h1 : q < 8 * b.length
  · rw [flip_left _ _ _ h1, List.take_left' (flip_length _ _), List.drop_left' (flip_length _ _)]
    intro he
    have h2 := be4_inj he
    have h3 := congrArg (· ^^^ ones) h2
    simp only [upd, ones_ones] at h3
    rw [takes_flip _ _ _ h1] at h3
    refine e_ne (8 * b.length - q) ?_
    have h4 := congrArg (takes (0#32 ^^^ ones) b ^^^ ·) h3
    simpa only [← BitVec.xor_assoc, BitVec.xor_self, BitVec.zero_xor] using h4
  · obtain ⟨q', rfl⟩ : ∃ q', q = 8 * b.length + q' := ⟨q - 8 * b.length, by omega⟩
    rw [flip_right, List.take_left' rfl, List.drop_left' rfl]
    intro he
    exact flip_ne (sumL b) q' (by rw [sumL_len]; omega) he.symm
/-- a frame, or what looks like one: its number, and what stands behind it -/
abbrev Itm := Nat × List B8
def Itm.bytes (x : Itm) : List B8 := be4 x.1 ++ x.2
def Itm.ok (x : Itm) : Prop := x.1 ≤ 8192 ∧ x.2.length = x.1 + 4
def Itm.tell (x : Itm) : List B8 × Int := if sumL (x.2.take x.1) = x.2.drop x.1 then (x.2.take x.1, 0) else ([], 72)
theorem takeF_itm {l : List B8} {a : Nat} {x : Itm} {rest : List B8} (hd : l.drop a = x.bytes ++ rest) (hx : x.ok) :
    takeF l (a : Int) = (x.tell.1, ((a + 8 + x.1 : Nat) : Int), x.tell.2) ∧ a + 8 + x.1 ≤ l.length ∧ l.drop (a + 8 + x.1) = rest := by
  obtain ⟨n, y⟩ := x
  obtain ⟨h8, hy⟩ := hx
  dsimp only at h8 hy
  unfold Itm.bytes at hd
  dsimp only at hd
  rw [List.append_assoc] at hd
  have hb4 : (be4 n).length = 4 := be_len _ _
  have hlen := congrArg List.length hd
  rw [List.length_drop, List.length_append, List.length_append, hb4, hy] at hlen
  have hd4 : l.drop (a + 4) = y ++ rest := by rw [← List.drop_drop, hd, List.drop_left' hb4]
  have e1 : l4 l a = be4 n := by rw [l4, hd, List.take_left' hb4]
  have e2 : num4 l a = n := by
    rw [num4, e1, be4, de_mod 4 _ (by decide), BitVec.toNat_ofNat]
    have : (256 : Nat) ^ 4 = 4294967296 := by decide
    omega
  have e3 : bod l a n = y.take n := by rw [bod, hd4, List.take_append_of_le_length (by omega)]
  have e5 : l.drop (a + 4 + n) = y.drop n ++ rest := by rw [← List.drop_drop, hd4, List.drop_append_of_le_length (by omega)]
  have e4 : l4 l (a + 4 + n) = y.drop n := by rw [l4, e5, List.take_left' (by rw [List.length_drop]; omega)]
  have h9 := sum4_be (l := l) (a := a) (n := n) (by omega)
  rw [e4] at h9
  have e6 : l.drop (a + 8 + n) = rest := by
    rw [show a + 8 + n = a + 4 + n + 4 by omega, ← List.drop_drop, e5, List.drop_left' (by rw [List.length_drop]; omega)]
  refine ⟨?_, by dsimp only; omega, e6⟩
  unfold Itm.tell
  dsimp only
  by_cases hs : sumL (y.take n) = y.drop n
  · rw [if_pos hs, takeF_good (by omega) (by omega) (by rw [e2, e3]; exact be4_inj (hs.trans h9.symm)), e2, e3]
  · rw [if_neg hs, takeF_bad (by omega) (by omega) (by rw [e2, e3]; intro h; exact hs (by rw [sumL, h, h9])), e2]
theorem Itm.tell_ne (x : Itm) : x.tell.2 ≠ 70 ∧ x.tell.2 ≠ 71 := by
  unfold Itm.tell
  split
  · exact ⟨show (0 : Int) ≠ 70 by decide, show (0 : Int) ≠ 71 by decide⟩
  · exact ⟨show (72 : Int) ≠ 70 by decide, show (72 : Int) ≠ 71 by decide⟩
theorem all_items (l : List B8) : ∀ (xs : List Itm) (a : Nat) (acc : Told), a ≤ l.length → l.drop a = xs.flatMap Itm.bytes → (∀ x ∈ xs, x.ok) → OnAll l a acc → allF l = (acc ++ xs.map Itm.tell, l.length)
  | [], a, acc, ha, hd, _, h => by
    have h1 := congrArg List.length hd
    rw [List.length_drop] at h1
    have h2 : l.length - a = 0 := h1
    have he : takeF l (a : Int) = ([], (a : Int), 70) := takeF_more (by omega)
    rw [onAll_end h (by rw [he]), List.map_nil, List.append_nil, show a = l.length by omega]
  | x :: xs, a, acc, ha, hd, hok, h => by
    obtain ⟨h1, h2, h3⟩ := takeF_itm (rest := xs.flatMap Itm.bytes) hd (hok x (List.mem_cons_self ..))
    have hn := x.tell_ne
    have h4 := onAll_next (b := a + 8 + x.1) h (by rw [h1]; exact hn.1) (by rw [h1]; exact hn.2) (by rw [h1])
    rw [all_items l xs _ _ h2 h3 (fun y hy => hok y (List.mem_cons_of_mem _ hy)) h4, h1, List.append_assoc]
    rfl
def itm (r : Rw) : Itm := (r.l.length, r.l ++ sumL r.l)
theorem itm_ok {r : Rw} (h : r.l.length ≤ 8192) : (itm r).ok := ⟨h, by rw [itm, List.length_append, sumL_len]⟩
theorem itm_tell (r : Rw) : (itm r).tell = (r.l, 0) := by
  unfold Itm.tell itm
  dsimp only
  rw [List.take_left' rfl, List.drop_left' rfl, if_pos rfl]
theorem itms_bytes (rs : List Rw) : (rs.map itm).flatMap Itm.bytes = frms rs := by
  rw [List.flatMap_map]
  rfl
def oks (rs : List Rw) : Told := rs.map fun r => (r.l, 0)
theorem oks_eq (rs : List Rw) : (rs.map itm).map Itm.tell = oks rs := by
  rw [List.map_map, oks]
  exact List.map_congr_left fun r _ => itm_tell r
theorem itms_ok {rs : List Rw} (h : okTo rs) : ∀ x ∈ rs.map itm, x.ok := by
  intro x hx
  obtain ⟨r, hr, rfl⟩ := List.mem_map.1 hx
  exact itm_ok (h r hr)
theorem all_good {rs : List Rw} (h : okTo rs) : allF (frms rs) = (oks rs, (frms rs).length) := by
  have := all_items (frms rs) (rs.map itm) 0 [] (Nat.zero_le _) (itms_bytes rs).symm (itms_ok h) (onAll_start _)
  rw [this, List.nil_append, oks_eq]
theorem all_odd {rs : List Rw} {k q : Nat} {r : Rw} (h : okTo rs) (hk : rs[k]? = some r) (hq : q < 8 * (r.l.length + 4)) :
    allF (crc.flip (frms rs) (8 * (frms (rs.take k)).length + (32 + q))) = ((oks rs).set k ([], 72), (frms rs).length) := by
  obtain ⟨hlt, rfl⟩ := List.getElem?_eq_some_iff.1 hk
  generalize hr : rs[k] = r at *
  have hx : (r.l ++ sumL r.l).length = r.l.length + 4 := by rw [List.length_append, sumL_len]
  have hb4 : (be4 r.l.length).length = 4 := be_len _ _
  have e : rs = rs.take k ++ r :: rs.drop (k + 1) := by rw [← hr, ← List.drop_eq_getElem_cons hlt, List.take_append_drop]
  have e1 : frms rs = frms (rs.take k) ++ (be4 r.l.length ++ ((r.l ++ sumL r.l) ++ frms (rs.drop (k + 1)))) := by
    conv => lhs; rw [e]
    rw [frms, List.flatMap_append, List.flatMap_cons, frm, List.append_assoc, List.append_assoc, List.append_assoc]
    rfl
  have e2 : crc.flip (frms rs) (8 * (frms (rs.take k)).length + (32 + q)) = ((rs.take k).map itm ++ ((r.l.length, crc.flip (r.l ++ sumL r.l) q) : Itm) :: (rs.drop (k + 1)).map itm).flatMap Itm.bytes := by
    rw [e1, flip_right, show 32 + q = 8 * (be4 r.l.length).length + q by rw [hb4], flip_right, flip_left _ _ _ (by rw [hx]; exact hq), List.flatMap_append, List.flatMap_cons, itms_bytes, itms_bytes, Itm.bytes, List.append_assoc]
  have hl : (crc.flip (frms rs) (8 * (frms (rs.take k)).length + (32 + q))).length = (frms rs).length := flip_length _ _
  have h1 : okTo (rs.take k) := fun x hx => h x (List.mem_of_mem_take hx)
  have h2 : okTo (rs.drop (k + 1)) := fun x hx => h x (List.mem_of_mem_drop hx)
  have h3 : r.l.length ≤ 8192 := h r (List.mem_of_getElem? hk)
  have := all_items (crc.flip (frms rs) (8 * (frms (rs.take k)).length + (32 + q))) _ 0 [] (Nat.zero_le _) e2 (by
    intro x hx
    rcases List.mem_append.1 hx with hx | hx
    · exact itms_ok h1 x hx
    · rcases List.mem_cons.1 hx with rfl | hx
      · exact ⟨h3, by rw [flip_length]; exact ‹(r.l ++ sumL r.l).length = _›⟩
      · exact itms_ok h2 x hx) (onAll_start _)
  rw [this, hl, List.nil_append, List.map_append, List.map_cons, oks_eq, oks_eq, List.set_eq_take_append_cons_drop, if_pos (by rw [oks, List.length_map]; exact hlt)]
  have et : Itm.tell (r.l.length, crc.flip (r.l ++ sumL r.l) q) = ([], 72) := if_neg (sum_flip hq)
  rw [et, oks, oks, oks, List.map_take, List.map_drop]
theorem odd_get {rs : List Rw} {k i : Nat} {r : Rw} (h : rs[i]? = some r) (hne : i ≠ k) : ((oks rs).set k ([], 72))[i]? = some (r.l, 0) := by
  rw [List.getElem?_set_ne (fun e => hne e.symm), oks, List.getElem?_map, h]
  rfl
theorem oks_get {rs : List Rw} {i : Nat} {r : Rw} (h : rs[i]? = some r) : (oks rs)[i]? = some (r.l, 0) := by
  rw [oks, List.getElem?_map, h]
  rfl
end Go.Proofs.Ythmdiopbiiimeaa.fr
