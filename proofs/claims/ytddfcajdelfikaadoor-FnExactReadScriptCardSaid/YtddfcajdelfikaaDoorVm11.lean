/- append. -/
import Derived.Test.YtddfcajdelfikaaDoorVm10
set_option linter.unusedVariables false
set_option linter.unusedSimpArgs false
set_option linter.unusedSectionVars false
namespace Go.Proofs.YtddfcajdelfikaaDoor.Vm
open Go
open GV (absL extsL fzL)
open PV (frzL)

section
variable {Z : Nat → Nat → Prop} {w0 : World} {E0 : List Ext} {pins : List Pin} {gr : List GR} {a : Act} {w : World} {st : St} {P : Program} {T : Tab} (hT : TabOk P T)
include hT

theorem evAppend_ok (h : Rel Z w0 E0 pins gr a w st) {d t t2 ty : Nat} {s x : Operand} {st' : St} {tv : TV} (he : evAppend T st d t t2 s x = some (st', tv)) :
    ∃ v w' gr', (Builtin.append_ #[t, t2] ty #[a.eval s, a.eval x]).run P w = .ok v w' ∧ Rel Z w0 E0 pins gr' a w' st' ∧ TVOk Z w' gr' v tv := by
  unfold evAppend at he
  split at he
  · rename_i e hte
    split at he
    · rename_i st1 s1 hsrc
      split at he
      · rename_i sz n cells hrow
        split at he
        · rename_i hsz
          split at he
          · rename_i E hE
            split at he
            · rename_i hbd
              split at he
              · rename_i st2 hst
                cases he
                obtain ⟨el, hu, hel⟩ := el_ok hT hte
                have hok := hT el e hel
                obtain ⟨inf, z, hi, hisz, hby, hz, hzc⟩ := hok.info
                obtain ⟨gr1, h1, _, hsp⟩ := h.gsrc hsrc
                obtain ⟨gs, gr0, habs, hv, sp, _⟩ := hsp _ hrow
                have hlen1 : gs.length = 1 := by rw [← absL_length, habs]; rfl
                obtain ⟨g, rfl⟩ := List.length_eq_one_iff.1 hlen1
                simp only [GV.absL, List.cons.injEq, and_true] at habs
                have hsg := sp.ok.sat
                simp only [SatL, and_true] at hsg
                obtain ⟨cap, y, gcells, rfl, rfl⟩ := slLeaf hT h1 (G := true) rfl hsg habs
                have hsv : a.eval s = .slice (y.map addrOf) n cap := by
                  rw [hv.eq]; rfl
                obtain ⟨gc, d2, gr00, hu2, hel2, hsrcok, hroots, henv⟩ := h1.gelems hT sp hE
                subst hsz
                have hsg' := hsg
                simp only [Sat] at hsg'
                obtain ⟨a1, a2, a3, a4, a5, a6, a7⟩ := hsg'
                have hszr : (sizeOf el).run P w = .ok e.size w := run_size hT w hel
                obtain ⟨b1, b2, b3, b4, b5, b6, _⟩ := hel2
                have hvlen : (gc.map GV.val).length = E.n * e.size := by simp [b2]
                -- the state behind the sources
                have hpk3 : ((st1.srcDrop s1).mvDrop E.mv).pk = st1.pk ∧ ((st1.srcDrop s1).mvDrop E.mv).nt = st1.nt := by
                  cases E.mv with
                  | none => exact ⟨sp.pk, sp.nt⟩
                  | some r => exact ⟨sp.pk, sp.nt⟩
                generalize hst3 : ((st1.srcDrop s1).mvDrop E.mv) = st3 at hst hroots henv hpk3
                unfold St.add at hst
                rw [hpk3.1] at hst
                cases hpk : hasKey st1.pk (d, 0) with
                | true => rw [hpk] at hst; cases hst
                | false =>
                  rw [hpk] at hst
                  cases hst
                  rw [hpk3.2]
                  have hrt : delR st3.roots (d, 0) = (gdel gr00 (d, 0)).map GR.root := by rw [hroots, delR_root]
                  rw [hrt]
                  obtain ⟨D, hD⟩ := hsrcok.perm
                  have hapD := h1.apart.perm hD
                  have hapgs := (Apart.append.1 (Apart.append.1 hapD).1).2.1
                  have hexgs : extsL ([GV.sl true e.size n cap y gcells] ++ gc) = ownExt true y ++ extsL gcells ++ extsL gc := by
                    rw [extsL_append]; simp [GV.extsL, GV.exts]
                  rw [hexgs] at hapgs
                  have hOin : ∀ b o, inE (ownExt true y ++ extsL gcells ++ extsL gc) b o → inE (extsR gr1) b o := fun b o he =>
                    (inE_perm hD).2 (inE_append.2 (.inl (inE_append.2 (.inr (by rw [hexgs]; exact he)))))
                  have hlenall : (gcells ++ gc).length = (n + E.n) * e.size := by rw [List.length_append, a1, b2, Nat.add_mul]
                  have e1 : ∀ cap' y', (⟨(d, 0), none, [.sl true e.size (n + E.n) cap' y' (gcells ++ gc)]⟩ : GR).root = ⟨(d, 0), true, [.sl true e.size (n + E.n) (absL gcells ++ E.cells)]⟩ := by
                    intro cap' y'
                    simp [GR.root, GV.absL, GV.abs, absL_append, b1]
                  by_cases hle : n + E.n ≤ cap
                  · have hrun := run_append_in (P := P) (ty := ty) (base := y.map addrOf) hu hszr hu2 b4 b5 (b6 w (.inl rfl)) hle
                    rw [← hsv] at hrun
                    cases y with
                    | none =>
                      obtain ⟨q1, q2⟩ := a3 rfl
                      have hE0 : E.n = 0 := by omega
                      have hg0 : gcells = [] := List.eq_nil_of_length_eq_zero (by rw [a1, q1, Nat.zero_mul])
                      have hc0 : gc = [] := List.eq_nil_of_length_eq_zero (by rw [b2, hE0, Nat.zero_mul])
                      obtain ⟨r1, _⟩ := h1.gnew hsrcok hpk (loc := none) (row' := [.sl true e.size (n + E.n) cap none (gcells ++ gc)]) (F := []) (Evo.refl w (fun _ _ => False)) (fun _ _ h => h.elim) (fun b o h => absurd h not_inE_nil) List.Pairwise.nil
                        (by rw [hexgs, hg0, hc0]; simp [GR.exts, GR.base, GV.extsL, GV.exts, ownExt])
                        (fun O' hO' => by
                          simp only [SatL, and_true, Sat]
                          refine ⟨hlenall, hle, fun _ => ⟨by omega, by omega⟩, (by intro b o hb; cases hb), (fun b o hb => by cases hb), (fun h => absurd h (by decide)), ?_⟩
                          rw [hg0, hc0]; trivial)
                        (by intro b o hb; cases hb) (by intro b o hb; cases hb) (env0 := st3.env) henv
                      rw [e1] at r1
                      exact ⟨_, _, _, hrun, r1, _, List.mem_cons_self, rfl, [.sl true e.size (n + E.n) cap none (gcells ++ gc)], rfl, _, rfl, rfl⟩
                    | some y =>
                      obtain ⟨b, o⟩ := y
                      have hblk := (a5 b o rfl).1 trivial
                      obtain ⟨w', hw1, hw2, hw3⟩ := run_stores P (b := b) (o := o + n * e.size) (m := o + cap * e.size) (vs := gc.map GV.val) hblk
                        (by rw [hvlen, Nat.add_assoc, ← Nat.add_mul]; exact Nat.add_le_add_left (Nat.mul_le_mul_right _ hle) _) (fun v hv => by
                          obtain ⟨g, hg, rfl⟩ := List.mem_map.1 hv
                          exact GV.val_one (SatL_iff.1 b3 g hg))
                      have hXb : ∀ b' o', (b' = b ∧ o + n * e.size ≤ o' ∧ o' < o + n * e.size + (gc.map GV.val).length) → inE (ownExt true (some (b, o))) b' o' := by
                        rintro b' o' ⟨rfl, _⟩
                        exact inE_one.2 rfl
                      have hX : ∀ b' o', (b' = b ∧ o + n * e.size ≤ o' ∧ o' < o + n * e.size + (gc.map GV.val).length) → inE (extsL ([GV.sl true e.size n cap (some (b, o)) gcells] ++ gc)) b' o' := by
                        intro b' o' hx
                        rw [hexgs]
                        exact inE_append.2 (.inl (inE_append.2 (.inl (hXb b' o' hx))))
                      have hXO : ∀ b' o', (b' = b ∧ o + n * e.size ≤ o' ∧ o' < o + n * e.size + (gc.map GV.val).length) → inE (extsR gr1) b' o' := fun b' o' hx => hOin b' o' (inE_append.2 (.inl (inE_append.2 (.inl (hXb b' o' hx)))))
                      have ap1 := Apart.append.1 hapgs
                      have ap2 := Apart.append.1 ap1.1
                      have hmem : Mem w' (some (b, o)) (gcells ++ gc) := by
                        intro b' o' hb i g hg
                        cases hb
                        by_cases hi : i < gcells.length
                        · rw [List.getElem?_append_left hi] at hg
                          have hc := a4 b o rfl i g hg
                          rw [hw2.cell b (o + i) (at_lt hc) (by rintro ⟨_, q1, _⟩; rw [a1] at hi; omega)]
                          exact hc
                        · rw [List.getElem?_append_right (by omega)] at hg
                          have := hw3 (i - gcells.length) g.val (by simp [hg])
                          rw [a1] at this hi
                          rwa [show o + n * e.size + (i - n * e.size) = o + i from by omega] at this
                      obtain ⟨r1, _⟩ := h1.gnew hsrcok hpk (loc := none) (row' := [.sl true e.size (n + E.n) cap (some (b, o)) (gcells ++ gc)]) (F := []) hw2 hX (fun b o h => absurd h not_inE_nil) List.Pairwise.nil
                        (by rw [hexgs]; simp [GR.exts, GR.base, GV.extsL, GV.exts, extsL_append])
                        (fun O' hO' => by
                          simp only [SatL, and_true, Sat]
                          refine ⟨hlenall, hle, (fun h => by cases h), hmem, ?_, (fun h => absurd h (by decide)), SatL_append.2 ⟨?_, ?_⟩⟩
                          · intro b' o' hb
                            cases hb
                            exact ⟨fun _ => hw2.blk _ _ hblk, fun h => absurd h (by decide)⟩
                          · exact SatL_evo hw2 (fun b o h => .inl (hXO b o h)) hO' gcells a7 fun b' o' q1 q2 => ap2.2.2 b' o' (hXb b' o' q2) q1
                          · exact SatL_evo hw2 (fun b o h => .inl (hXO b o h)) hO' gc b3 fun b' o' q1 q2 => ap1.2.2 b' o' (inE_append.2 (.inl (hXb b' o' q2))) q1)
                        (by intro b o hb; cases hb) (by intro b o hb; cases hb) (env0 := st3.env) henv
                      rw [e1] at r1
                      refine ⟨_, _, _, ?_, r1, _, List.mem_cons_self, rfl, [.sl true e.size (n + E.n) cap (some (b, o)) (gcells ++ gc)], rfl, _, rfl, rfl⟩
                      rw [hrun]
                      simp only [Option.map_some, addrOf, Addr.add_lit, hw1, Result.andThen_ok]
                      rfl
                  · have hgt : cap < n + E.n := by omega
                    have hold : (Builtin.firstCells e.size n (.slice (y.map addrOf) n cap)).run P w.drew = .ok (gcells.map GV.val).toArray w.drew := by
                      cases y with
                      | none =>
                        have hg0 : gcells = [] := List.eq_nil_of_length_eq_zero (by rw [a1, (a3 rfl).1, Nat.zero_mul])
                        rw [hg0]
                        simp [Builtin.firstCells]
                      | some y =>
                        obtain ⟨b, o⟩ := y
                        have hm2 : Mem w.drew (some (b, o)) gcells := a4
                        exact firstCells_mem hm2 a1
                    have hrun := run_append_grow' (P := P) (ty := ty) (base := y.map addrOf) hu hi hz hisz hu2 b4 b5 (b6 w.drew (.inr rfl)) hold hgt (by rw [hby]; exact hbd.1) hbd.2
                    rw [← hsv] at hrun
                    have hzs : z.cells.size = e.size := by
                      have := congrArg List.length hzc
                      simp only [Array.length_toList, List.length_map] at this
                      rw [this, hok.zl]
                    generalize hrest : (Builtin.zeroCells z.cells (grownCap w (n + E.n) cap el - (n + E.n))).toList = rest at hrun
                    have hrl : rest.length = (grownCap w (n + E.n) cap el - (n + E.n)) * e.size := by
                      rw [← hrest, Array.length_toList, size_zeroCells, hzs]
                    have hge := grownCap_ge w (n + E.n) cap el
                    generalize grownCap w (n + E.n) cap el = cap' at hrun hrl hge
                    have hsrc2 : SrcOk Z w gr1 gr00 (gcells ++ gc) := by
                      refine ⟨hsrcok.like, ⟨ownExt true y ++ D, ?_⟩, SatL_append.2 ⟨a7, b3⟩, hsrcok.keys⟩
                      refine hD.trans ?_
                      rw [hexgs, extsL_append]
                      generalize ownExt true y = A
                      generalize extsL gcells = B
                      generalize extsL gc = C
                      generalize extsR gr00 = Z
                      have q : (A ++ (B ++ (C ++ D))).Perm (B ++ (C ++ (A ++ D))) := by
                        have : (A ++ (B ++ C)).Perm ((B ++ C) ++ A) := List.perm_append_comm
                        have := this.append_right D
                        simpa only [List.append_assoc] using this
                      simp only [List.append_assoc]
                      exact q.append_left Z
                    have hmem : Mem (w.drew.alloc (.cells ((gcells ++ gc).map GV.val ++ rest).toArray el)) (some (w.heap.size, 0)) (gcells ++ gc) := mem_alloc w.drew (gcells ++ gc) rest el
                    have hE : Evo w (w.drew.alloc (.cells ((gcells ++ gc).map GV.val ++ rest).toArray el)) (fun _ _ => False) :=
                      (evo_drew w (fun _ _ => False)).trans (evo_alloc w.drew _ (fun _ _ => False)) (fun _ _ _ h => h) (fun _ _ _ h => h)
                    obtain ⟨r1, _⟩ := h1.gnew hsrc2 hpk (loc := none) (row' := [.sl true e.size (n + E.n) cap' (some (w.heap.size, 0)) (gcells ++ gc)]) (F := [.blk w.heap.size]) hE (fun _ _ h => h.elim)
                      (fun b o he => by have := inE_one.1 he; simp only [Ext.has] at this; omega) (List.pairwise_singleton _ _)
                      (by simp only [GR.exts, GR.base, GV.extsL, GV.exts, ownExt, List.nil_append, List.append_nil]; exact List.perm_append_comm)
                      (fun O' hO' => by
                        simp only [SatL, and_true, Sat]
                        refine ⟨hlenall, hge, (fun h => by cases h), hmem, ?_, (fun h => absurd h (by decide)), SatL_evo hE (fun _ _ h => h.elim) hO' _ hsrc2.sat (fun _ _ _ h => h)⟩
                        intro b' o' hb
                        cases hb
                        refine ⟨fun _ => ?_, fun h => absurd h (by decide)⟩
                        refine blk_alloc w.drew _ el ?_
                        simp only [List.size_toArray, List.length_append, List.length_map, hrl, Nat.zero_add]
                        rw [a1, b2, ← Nat.add_mul, ← Nat.add_mul]
                        exact Nat.mul_le_mul_right _ (by omega))
                      (by intro b o hb; cases hb) (by intro b o hb; cases hb) (env0 := st3.env) henv
                    rw [e1] at r1
                    refine ⟨_, _, _, ?_, r1, _, List.mem_cons_self, rfl, [.sl true e.size (n + E.n) cap' (some (w.heap.size, 0)) (gcells ++ gc)], rfl, _, rfl, rfl⟩
                    rw [hrun, ← List.map_append]
                    rfl
              · cases he
            · cases he
          · cases he
        · cases he
      · cases he
    · cases he
  · cases he
end

end Go.Proofs.YtddfcajdelfikaaDoor.Vm
