/-
  The reference's search while its rows are made. Plain lemmas.
-/
import Derived.Test.YtklfjekpeoigoaaQExactBestMoves17
namespace Go.Proofs.Ytklfjekpeoigoaa
open Go.RowKit
theorem alloc_sz (w : World) (o : Obj) : (w.alloc o).heap.size = w.heap.size + 1 := by simp
theorem sum_cap {B : Int} : ∀ {l : List Int}, (∀ z ∈ l, z ≤ B) → l.sum ≤ B * l.length := by
  intro l
  induction l with
  | nil => intro _; simp
  | cons z l ih =>
    intro h
    have h1 := h z (List.mem_cons_self ..)
    have h2 := ih fun z hz => h z (List.mem_cons_of_mem _ hz)
    rw [List.sum_cons, List.length_cons]
    rw [show ((l.length + 1 : Nat) : Int) = (l.length : Int) + 1 by omega, Int.mul_add]
    omega
theorem take_snoc {l : List Int} {k : Nat} {z : Int} (h : l[k]? = some z) : l.take k ++ [z] = l.take (k + 1) := by
  obtain ⟨h1, h2⟩ := List.getElem?_eq_some_iff.1 h
  rw [← h2, List.take_append_getElem]
structure SwB (w0 : World) (gp b2 b3 : Nat) (Ac : Option Addr) (cc : Nat) (cs : List TN) (Am : Option Addr) (cm : Nat) (more : List Int) (Ag : Option Addr) (cg : Nat) (gs : List Int) (w : World) : Prop where
  box : BoxN w gp #[.slice Ac cs.length cc, .slice Am more.length cm, .slice Ag gs.length cg, .slice (some ⟨b2, 0, none⟩) 0 0, .slice (some ⟨b3, 0, none⟩) 0 0, .int .i64 (-1)] 139
  trk : Trk w0.heap.size w gp [(.slice Am more.length cm, more), (.slice Ag gs.length cg, gs), (.slice (some ⟨b2, 0, none⟩) 0 0, []), (.slice (some ⟨b3, 0, none⟩) 0 0, [])]
  bel : Below w0.heap.size w0 w
  np : w0.heap.size ≤ gp
section
variable {w0 : World} {gp b2 b3 : Nat} {Ac : Option Addr} {cc : Nat} {cs : List TN} {Am : Option Addr} {cm : Nat} {more : List Int} {Ag : Option Addr} {cg : Nat} {gs : List Int} {w w' : World}
theorem SwB.below (h : SwB w0 gp b2 b3 Ac cc cs Am cm more Ag cg gs w) (k : Below w.heap.size w w') : SwB w0 gp b2 b3 Ac cc cs Am cm more Ag cg gs w' := ⟨h.box.below k h.box.lt, h.trk.below k, h.bel.trans (k.mono h.bel.size), h.np⟩
theorem SwB.rm (h : SwB w0 gp b2 b3 Ac cc cs Am cm more Ag cg gs w) : w.ownsRow w0.heap.size 2 1 (.slice Am more.length cm) more.length (more.map (Value.int .i64)) := h.trk.own 0 _ _ rfl
theorem SwB.rg (h : SwB w0 gp b2 b3 Ac cc cs Am cm more Ag cg gs w) : w.ownsRow w0.heap.size 2 1 (.slice Ag gs.length cg) gs.length (gs.map (Value.int .i64)) := h.trk.own 1 _ _ rfl
theorem SwB.pushM (h : SwB w0 gp b2 b3 Ac cc cs Am cm more Ag cg gs w) {w5 : World} {A' : Option Addr} {c' : Nat} {z : Int} (hg : w.grownBy w5 (Value.slice Am more.length cm).ownBlock) (hown : w5.ownsRow w0.heap.size 2 1 (.slice A' (more.length + 1) c') (more.length + 1) (more.map (Value.int .i64) ++ [.int .i64 z])) (hat : (Value.slice A' (more.length + 1) c').ownBlock = (Value.slice Am more.length cm).ownBlock ∨ (Value.slice A' (more.length + 1) c').ownBlock = some w.heap.size) :
    SwB w0 gp b2 b3 Ac cc cs A' c' (more ++ [z]) Ag cg gs (w5.setCell ⟨gp, 1, none⟩ (.slice A' (more.length + 1) c')) := by
  have hl : (more ++ [z]).length = more.length + 1 := by simp
  have hbx : BoxN w5 gp _ _ := (hg.block gp h.box.lt (fun e => h.trk.ne 0 _ _ rfl e.symm)).trans h.box
  have ht := (h.trk.app (i := 0) rfl hg hown hat h.box.lt).box 1 (.slice A' (more.length + 1) c')
  refine ⟨?_, ?_, (app_below h.bel h.rm hg (Nat.le_refl _) h.bel.size).setCell h.np _, h.np⟩
  · rw [hl]; exact hbx.set 1 (.slice A' (more.length + 1) c')
  · rw [hl]; exact ht
theorem SwB.pushG (h : SwB w0 gp b2 b3 Ac cc cs Am cm more Ag cg gs w) {w5 : World} {A' : Option Addr} {c' : Nat} {z : Int} (hg : w.grownBy w5 (Value.slice Ag gs.length cg).ownBlock) (hown : w5.ownsRow w0.heap.size 2 1 (.slice A' (gs.length + 1) c') (gs.length + 1) (gs.map (Value.int .i64) ++ [.int .i64 z])) (hat : (Value.slice A' (gs.length + 1) c').ownBlock = (Value.slice Ag gs.length cg).ownBlock ∨ (Value.slice A' (gs.length + 1) c').ownBlock = some w.heap.size) :
    SwB w0 gp b2 b3 Ac cc cs Am cm more A' c' (gs ++ [z]) (w5.setCell ⟨gp, 2, none⟩ (.slice A' (gs.length + 1) c')) := by
  have hl : (gs ++ [z]).length = gs.length + 1 := by simp
  have hbx : BoxN w5 gp _ _ := (hg.block gp h.box.lt (fun e => h.trk.ne 1 _ _ rfl e.symm)).trans h.box
  have ht := (h.trk.app (i := 1) rfl hg hown hat h.box.lt).box 2 (.slice A' (gs.length + 1) c')
  refine ⟨?_, ?_, (app_below h.bel h.rg hg (Nat.le_refl _) h.bel.size).setCell h.np _, h.np⟩
  · rw [hl]; exact hbx.set 2 (.slice A' (gs.length + 1) c')
  · rw [hl]; exact ht
theorem SwB.boxM (h : SwB w0 gp b2 b3 Ac cc cs Am cm more Ag cg gs w) {w5 : World} (hg : w.grownBy w5 (Value.slice Am more.length cm).ownBlock) : BoxN w5 gp #[.slice Ac cs.length cc, .slice Am more.length cm, .slice Ag gs.length cg, .slice (some ⟨b2, 0, none⟩) 0 0, .slice (some ⟨b3, 0, none⟩) 0 0, .int .i64 (-1)] 139 := (hg.block gp h.box.lt (fun e => h.trk.ne 0 _ _ rfl e.symm)).trans h.box
theorem SwB.boxG (h : SwB w0 gp b2 b3 Ac cc cs Am cm more Ag cg gs w) {w5 : World} (hg : w.grownBy w5 (Value.slice Ag gs.length cg).ownBlock) : BoxN w5 gp #[.slice Ac cs.length cc, .slice Am more.length cm, .slice Ag gs.length cg, .slice (some ⟨b2, 0, none⟩) 0 0, .slice (some ⟨b3, 0, none⟩) 0 0, .int .i64 (-1)] 139 := (hg.block gp h.box.lt (fun e => h.trk.ne 1 _ _ rfl e.symm)).trans h.box
theorem SwB.start (w : World) (Ac : Option Addr) (cc : Nat) (cs : List TN) : SwB w (w.heap.size + 4) (w.heap.size + 2) (w.heap.size + 3) Ac cc cs (some ⟨w.heap.size, 0, none⟩) 0 [] (some ⟨w.heap.size + 1, 0, none⟩) 0 []
    (((((w.alloc (.cells #[] 2)).alloc (.cells #[] 2)).alloc (.cells #[] 2)).alloc (.cells #[] 2)).alloc (.cells #[.slice Ac cs.length cc, .slice (some ⟨w.heap.size, 0, none⟩) 0 0, .slice (some ⟨w.heap.size + 1, 0, none⟩) 0 0, .slice (some ⟨w.heap.size + 2, 0, none⟩) 0 0, .slice (some ⟨w.heap.size + 3, 0, none⟩) 0 0, .int .i64 (-1)] 139)) := by
  have r0 := own_new0 w w.heap.size 2 1 (Nat.le_refl _)
  have r1 := own_new0 (w.alloc (.cells #[] 2)) w.heap.size 2 1 (by simp)
  have r2 := own_new0 ((w.alloc (.cells #[] 2)).alloc (.cells #[] 2)) w.heap.size 2 1 (by simp <;> omega)
  have r3 := own_new0 (((w.alloc (.cells #[] 2)).alloc (.cells #[] 2)).alloc (.cells #[] 2)) w.heap.size 2 1 (by simp <;> omega)
  have hb := BoxN.new ((((w.alloc (.cells #[] 2)).alloc (.cells #[] 2)).alloc (.cells #[] 2)).alloc (.cells #[] 2)) #[.slice Ac cs.length cc, .slice (some ⟨w.heap.size, 0, none⟩) 0 0, .slice (some ⟨w.heap.size + 1, 0, none⟩) 0 0, .slice (some ⟨w.heap.size + 2, 0, none⟩) 0 0, .slice (some ⟨w.heap.size + 3, 0, none⟩) 0 0, .int .i64 (-1)] 139
  simp only [alloc_sz] at r1 r2 r3 hb
  refine ⟨hb, ?_, ?_, by omega⟩
  · refine Trk.cons (Trk.cons (Trk.cons (Trk.cons Trk.nil ?_ ?_ ?_) ?_ ?_ ?_) ?_ ?_ ?_) ?_ ?_ ?_
    · exact r3.alloc _
    · simp [Value.ownBlock]
    · intro j v xs g e; simp at e
    · exact (r2.alloc _).alloc _
    · simp [Value.ownBlock]
    · intro j v xs g e
      rcases j with _ | j
      · simp at e; obtain ⟨rfl, _⟩ := e; simp [Value.ownBlock]; omega
      · simp at e
    · exact ((r1.alloc _).alloc _).alloc _
    · simp [Value.ownBlock]
    · intro j v xs g e
      rcases j with _ | _ | j
      · simp at e; obtain ⟨rfl, _⟩ := e; simp [Value.ownBlock]; omega
      · simp at e; obtain ⟨rfl, _⟩ := e; simp [Value.ownBlock]; omega
      · simp at e
    · exact (((r0.alloc _).alloc _).alloc _).alloc _
    · simp [Value.ownBlock]
    · intro j v xs g e
      rcases j with _ | _ | _ | j
      · simp at e; obtain ⟨rfl, _⟩ := e; simp [Value.ownBlock]; omega
      · simp at e; obtain ⟨rfl, _⟩ := e; simp [Value.ownBlock]; omega
      · simp at e; obtain ⟨rfl, _⟩ := e; simp [Value.ownBlock]; omega
      · simp at e
  · repeat (first | exact Below.refl _ _ | refine Below.alloc ?_ (by simp <;> omega) _)
theorem SwB.done {gm : Nat} (h : SwB w0 gp b2 b3 Ac cc cs (some ⟨gm, 0, none⟩) cm more Ag cg gs w) (hc : RN 0 w0 w0.heap.size Ac cs) : SwI w0 gp gm cm Ac Ag cc cg cs gs w more [] [] (.slice (some ⟨b2, 0, none⟩) 0 0) (.slice (some ⟨b3, 0, none⟩) 0 0) (-1) := by
  have a := fun i j v xs u ys g => h.trk.ap i j v xs u ys g
  exact ⟨h.box, h.rm, h.trk.own 2 _ _ rfl, h.trk.own 3 _ _ rfl, h.rg, hc, h.bel, ⟨h.np, fun e => h.trk.ne 0 _ _ rfl (by rw [← e]; rfl)⟩,
    ⟨h.trk.ne 2 _ _ rfl, a 0 2 _ _ _ _ gm (by omega) rfl rfl rfl⟩, ⟨h.trk.ne 3 _ _ rfl, a 0 3 _ _ _ _ gm (by omega) rfl rfl rfl, fun g e => a 2 3 _ _ _ _ g (by omega) rfl rfl e⟩,
    ⟨h.trk.ne 1 _ _ rfl, a 0 1 _ _ _ _ gm (by omega) rfl rfl rfl, fun g e => a 2 1 _ _ _ _ g (by omega) rfl rfl e⟩⟩
end
end Go.Proofs.Ytklfjekpeoigoaa
