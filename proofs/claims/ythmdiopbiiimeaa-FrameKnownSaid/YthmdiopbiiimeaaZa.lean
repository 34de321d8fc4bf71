/- More rules: bytes of a constant text. -/
import Derived.Test.YthmdiopbiiimeaaBt
import Derived.Lib.SlBytesConst
namespace Go.Proofs.Ythmdiopbiiimeaa
open Go.RowKit
section
variable {P : Program} {n : Nat} {M : Me} {Q : Post} {t : Fr} {L : List Ck} {ops : Array Oper} {s : Way} {i : Nat} {rest : List Oper}
theorem freeze_at {w : World} {b off : Nat} {cs : Array Value} {T : TypeId} (h : w.heap[b]? = some (.cells cs T (0, 0))) : (w.freeze ⟨b, off, none⟩ 1).heap[b]? = some (.cells cs T (off, off + 1)) := by
  obtain ⟨hlt, hk⟩ := Array.getElem?_eq_some_iff.1 h
  unfold World.freeze
  rw [if_neg (by decide)]
  show (w.heap.modify b _)[b]? = _
  rw [Array.getElem?_eq_getElem (by rw [Array.size_modify]; exact hlt), Array.getElem_modify_self, hk]
  rfl
theorem freeze_other {w : World} {a : Addr} {g : Nat} (h : g ≠ a.block) : (w.freeze a 1).heap[g]? = w.heap[g]? := by
  unfold World.freeze
  rw [if_neg (by decide)]
  show (w.heap.modify a.block _)[g]? = _
  rw [Array.getElem?_modify, if_neg (fun e => h e.symm)]
theorem freeze_size (w : World) (a : Addr) : (w.freeze a 1).heap.size = w.heap.size := by
  unfold World.freeze
  rw [if_neg (by decide)]
  show (w.heap.modify a.block _).size = _
  rw [Array.size_modify]
theorem run_cvslice {w : World} {b m c : Nat} {cs : Array Value} {T e e0 : TypeId} (hT : P.underlying T = some (.slice e)) (he : P.underlying e = some (.int .u8)) (h : w.heap[b]? = some (.cells cs e0 (0, 0))) :
    (convert T T (.slice (some ⟨b, 0, none⟩) m c)).run P w = .ok (.slice (some ⟨b, 0, none⟩) m c) (w.freeze ⟨b, cs.size, none⟩ 1) := by
  have hsh : w.shape? b = some (e0, cs.size) := by unfold World.shape?; rw [h]
  simp [convert, run_underlying hT, run_underlying he, markStringish, hsh]
/-- a whole block of bytes, marked as a text's: it is read alone from here on -/
theorem lx_cvslice {E : Env P} {T : TypeId} {x : Operand} {dst : Option Tmp} {ty : TypeId} {pos : String} {after : Array Edge} {guard : Option (Nat × Bool)} {d b m c : Nat} {e e0 : TypeId} {cs : List Value} (k : Nat) (hl : s.loud i = true) {p : Option Bool} (hg : gOf ops t ⟨dst, .convert T T x, ty, pos, after, guard⟩ = some p) (hp : cb p = true) (hd : dst = some d) (hn : Nat.blt d n = true)
    (hx : o1 t x = some (.slice (some ⟨b, 0, none⟩) m c)) (hT : tyOf E.f T = .slice e) (he : tyOf E.f e = .int .u8) (hk : L[k]? = some (.blk b cs e0)) (hlen : cs.length = m * 1)
    (hgs : s.gives L → s.gives (L.set k (.ro (some ⟨b, 0, none⟩) m 1 cs)))
    (h : LX P n M ops s (i + 1) rest Q ((d, none, .slice (some ⟨b, 0, none⟩) m c) :: t) (L.set k (.ro (some ⟨b, 0, none⟩) m 1 cs))) : LX P n M ops s i (⟨dst, .convert T T x, ty, pos, after, guard⟩ :: rest) Q t L :=
  lx_loud hl hg hp fun a w hf hm hs K hK => by
    have hb : w.heap[b]? = some (.cells cs.toArray e0 (0, 0)) := hm.get hk
    have hr := run_cvslice (P := P) (m := m) (c := c) (tyOf_slice hT) (tyOf_int he) hb
    unfold Oper.wp execOp
    simp only [hf.o1 hx, Sem.run_bind, hr, Result.andThen_ok, Sem.run_pure]
    show K (a.put dst _) _
    rw [hd]
    refine hK _ _ _ _ (hf.put1 (Nat.le_of_ble_eq_true hn) _) (hm.turn (c' := .ro (some ⟨b, 0, none⟩) m 1 cs) hk rfl (fun g hg => .inl (Option.some.inj hg.2)) (by simp [World.freeze]) (by simp [World.freeze]) (by simp [World.freeze]) (by rw [freeze_size]; exact Nat.le_refl _) (fun g _ hne => freeze_other fun e => hne e.symm) ⟨hlen, fun _ => ⟨b, 0, rfl, ?_, fun j u hu => ?_⟩⟩) (hgs hs) h
    · rw [freeze_size]; exact (Array.getElem?_eq_some_iff.1 hb).1
    · unfold World.cell?
      rw [freeze_at hb]
      simpa using hu
end
end Go.Proofs.Ythmdiopbiiimeaa
