/- The document's Start. (Written by gen_refs.py.) -/
import Derived.Test.YtodmnogoacghpaaGreatDoorRefT
namespace Go.Proofs.YtodmnogoacghpaaGreatDoor
open Go.RowKit Go.Maps
set_option maxRecDepth 100000
set_option maxHeartbeats 4000000

theorem start_ref_end {w w2 : World} {a bf : Nat} {G G2 : List Nat} {d : DiskD} {keeps : Int} {n : Nat} {mm : MapF} (H : RDisk w a bf G d) (hn : NodupK d.fs) (hb : Below w.heap.size w w2) (hM : MapV Tryz.prog 9 w2 w.heap.size n mm) (hR : RMap w2 G2 mm (startFs keeps d.fs)) (hG : ∀ j ∈ G2, w.heap.size + 1 < j ∧ j < w2.heap.size) : RStep w a bf G (startD d keeps) ((w2.setCell ⟨a, 0, none⟩ (.map (some w.heap.size))).setCell ⟨a, 1, none⟩ (.int .i64 (-1))) := by
  have hlt := H.alt
  have hk : ∀ k, k ≠ a → ((w2.setCell ⟨a, 0, none⟩ (.map (some w.heap.size))).setCell ⟨a, 1, none⟩ (.int .i64 (-1))).heap[k]? = w2.heap[k]? := fun k hk => (heapSet_ne _ a 1 _ hk).trans (heapSet_ne _ a 0 _ hk)
  have g0 := heapSet_same w2 a 0 (.map (some w.heap.size)) ((hb.block a hlt).trans H.blk)
  have g1 := heapSet_same _ a 1 (.int .i64 (-1)) g0
  have hz : ((w2.setCell ⟨a, 0, none⟩ (.map (some w.heap.size))).setCell ⟨a, 1, none⟩ (.int .i64 (-1))).heap.size = w2.heap.size := by simp [World.setCell]
  have hR2 := hR.keep (w' := ((w2.setCell ⟨a, 0, none⟩ (.map (some w.heap.size))).setCell ⟨a, 1, none⟩ (.int .i64 (-1)))) (fun k hk' => hk k (by have := hG k hk'; omega))
  refine ⟨w.heap.size, G2, ⟨g1, by omega, fun k hk' => by rw [hz]; have := hG k hk'; exact ⟨this.2, by omega, by omega⟩, mm, (hM.keep (hk _ (by omega))).fit Tryz.underlying9 (hR2.keys (startFs_nodup keeps hn)) (by rw [List.length_map]; exact Nat.le_refl _), hR2⟩, Or.inr (Nat.le_refl _), fun k hk' => Or.inr (by have := hG k hk'; omega), ((Turn.of_below hb).setCell (Or.inl (by simp)) _).setCell (Or.inl (by simp)) _⟩
theorem gen_world {P : Program} {c : Code} {Q : Exit → Act → World → Prop} {a : Act} {W : World} (h : ∀ W', W' = W → c.wp P Q a W') : c.wp P Q a W := h _ rfl
theorem grown_of_below {w1 W : World} (hb : Below w1.heap.size w1 W) : w1.grownBy W none := ⟨hb.os, hb.tape, hb.output, hb.size, fun k hk _ => hb.block k hk⟩

end Go.Proofs.YtodmnogoacghpaaGreatDoor
