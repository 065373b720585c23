/- The abstract machine started over tables that package variables hold. Condition: the world holds the tables that the row lists. -/
import Derived.Test.YtemakfepcogeiaaDoorNm
import Derived.Test.YtemakfepcogeiaaDoorRows
import Derived.Lib.LaidTab
namespace Go.Proofs.YtemakfepcogeiaaDoor.E
open Go Go.Proofs
set_option maxRecDepth 4000
theorem laid_head {P : Program} {W : World} {name : String} {k : IntKind} {zs : List Int} {rest : List (String × DataW Unit)} {g : Nat} {t e : TypeId} {n : Nat} {ps : List MemPlace}
    (hg : P.globalNamed name = some g) (hty : (P.globals[g]?).map (·.type) = some t) (ht : P.underlying t = some (.array n e)) (he : P.underlying e = some (.int k)) (hce : P.cellsOf e = 1) (hct : P.cellsOf t = n)
    (h : DataW.LaidVars P W ((name, Lib.tabData k zs) :: rest) ps) : Lib.TabIs P W name k zs ∧ ∃ q, DataW.LaidVars P W rest q := by
  obtain ⟨g', t', cs, fuel, p, q, hg', ht', hvar, hd, hq, _⟩ := h
  obtain rfl := Option.some.inj (hg.symm.trans hg')
  obtain rfl := Option.some.inj (hty.symm.trans ht')
  refine ⟨?_, q, hq⟩
  unfold Lib.TabIs
  rw [hvar, ← Lib.cells_of_tab ht he hce hct hd]
def zs32 : List Int := [0, 1, 28, 2, 29, 14, 24, 3, 30, 22, 20, 15, 25, 17, 4, 8, 31, 27, 13, 23, 21, 19, 16, 7, 26, 12, 18, 6, 11, 5, 10, 9]
def zs64 : List Int := [0, 1, 56, 2, 57, 49, 28, 3, 61, 58, 42, 50, 38, 29, 17, 4, 62, 47, 59, 36, 45, 43, 51, 22, 53, 39, 33, 30, 24, 18, 12, 5, 63, 55, 48, 27, 60, 41, 37, 16, 46, 35, 44, 21, 52, 32, 23, 11, 54, 26, 40, 15, 34, 20, 31, 10, 25, 14, 19, 9, 13, 8, 7, 6]
def zs10 : List Int := [1, 10, 100, 1000, 10000, 100000, 1000000, 10000000, 100000000, 1000000000, 10000000000, 100000000000, 1000000000000, 10000000000000, 100000000000000, 1000000000000000, 10000000000000000, 100000000000000000, 1000000000000000000, 10000000000000000000]
def intsAV (k : IntKind) (zs : List Int) : List AV := zs.map fun z => .val (.int k z)
/-- a table in the world: its variable's block holds it -/
theorem TabIs.heap {P : Program} {W : World} {name : String} {k : IntKind} {zs : List Int} (h : Lib.TabIs P W name k zs) {g : Nat} (hg : P.globalNamed name = some g) : ∃ T fr, W.heap[g]? = some (.cells (zs.map fun z => Value.int k z).toArray T fr) := by
  unfold Lib.TabIs World.var? at h
  rw [hg] at h
  simp only [Option.bind_some] at h
  split at h
  · rename_i cs T fr hh
    simp only [Option.some.injEq] at h
    subst h
    exact ⟨T, fr, hh⟩
  · cases h
def tabM (tabs : List (Nat × IntKind × List Int)) (b : Nat) : List Value :=
  match tabs with
  | [] => []
  | (i, k, zs) :: r => if i = b then zs.map fun z => Value.int k z else tabM r b
def gTab (tabs : List (Nat × IntKind × List Int)) : G := { n := 0, blk := fun _ => 0, base := fun _ => 0, siz := fun _ => 0, M := tabM tabs }
def stTab (tabs : List (Nat × IntKind × List Int)) : St := ⟨0, .nil, [], tabs.map fun t => (t.1, intsAV t.2.1 t.2.2)⟩
def TabsIn (W : World) (tabs : List (Nat × IntKind × List Int)) : Prop := ∀ t ∈ tabs, ∃ T fr, W.heap[t.1]? = some (.cells (t.2.2.map fun z => Value.int t.2.1 z).toArray T fr)
theorem tabM_mem : ∀ {tabs : List (Nat × IntKind × List Int)} {b : Nat}, tabM tabs b ≠ [] → ∃ t ∈ tabs, t.1 = b ∧ tabM tabs b = t.2.2.map fun z => Value.int t.2.1 z
  | [], b, h => absurd rfl h
  | (i, k, zs) :: r, b, h => by
    unfold tabM at h ⊢
    split
    · rename_i e; exact ⟨_, List.mem_cons_self .., e, rfl⟩
    · rename_i e
      rw [if_neg e] at h
      obtain ⟨t, ht, h1, h2⟩ := tabM_mem h
      exact ⟨t, List.mem_cons_of_mem _ ht, h1, h2⟩
theorem tabM_at : ∀ {tabs : List (Nat × IntKind × List Int)}, (tabs.map (·.1)).Nodup → ∀ t ∈ tabs, tabM tabs t.1 = t.2.2.map fun z => Value.int t.2.1 z
  | [], _, t, h => by cases h
  | (i, k, zs) :: r, hn, t, h => by
    obtain ⟨h1, h2⟩ := List.nodup_cons.1 hn
    unfold tabM
    rcases List.mem_cons.1 h with rfl | h
    · simp
    · rw [if_neg, tabM_at h2 t h]
      intro e
      exact h1 (by rw [e]; exact List.mem_map.2 ⟨t, h, rfl⟩)
theorem okTab {tabs : List (Nat × IntKind × List Int)} (hn : (tabs.map (·.1)).Nodup) {W : World} (h : TabsIn W tabs) : OK (gTab tabs) (stTab tabs) W :=
  ⟨fun b hb => by
    obtain ⟨t, ht, rfl, he⟩ := tabM_mem hb
    obtain ⟨T, fr, hh⟩ := h t ht
    refine ⟨_, T, fr, hh, ?_⟩
    show tabM tabs t.1 <+: _
    rw [he]
    exact List.prefix_refl _, fun id o h => by simp [stTab, St.get, Tr.get] at h, fun id o _ _ h => by simp [stTab, St.get, Tr.get] at h, fun id o h => by simp [stTab, St.get, Tr.get] at h, rfl, fun p hp => by
    obtain ⟨t, ht, rfl⟩ := List.mem_map.1 hp
    have hv : VRs (gTab tabs) (intsAV t.2.1 t.2.2) (t.2.2.map fun z => Value.int t.2.1 z) := .of_get (by simp [intsAV]) fun i c u hc hu => by
      unfold intsAV at hc
      rw [List.getElem?_map] at hc hu
      obtain ⟨z, hz, rfl⟩ := Option.map_eq_some_iff.1 hc
      rw [hz] at hu
      cases hu
      exact .val _ rfl
    refine .iptr _ _ _ hv.1 hv.2 (fun u hu => ?_) ⟨rfl, ?_⟩
    · obtain ⟨z, _, rfl⟩ := List.mem_map.1 hu
      rfl
    · show _ <+: (tabM tabs t.1).drop 0
      rw [tabM_at hn t ht]
      exact List.prefix_refl _⟩
theorem closedT {f k : Nat} {tabs : List (Nat × IntKind × List Int)} (hn : (tabs.map (·.1)).Nodup) (h : isTrue (evCall E0 ovF k f [] (stTab tabs)) = true) {W : World} (hW : TabsIn W tabs) : Calls Tryd.prog f #[] W fun e w' => e = .returned (.bool true) ∧ RowKit.Below W.heap.size W w' := by
  cases hr : evCall E0 ovF k f [] (stTab tabs) with
  | none => rw [hr] at h; cases h
  | some r =>
    have hc := (ev_ok (envOf_ok (P := Tryd.prog) rfl) ovF_ok k).call f [] (stTab tabs) r hr (gTab tabs) W [] (okTab hn hW) (.nil _)
    refine hc.mono fun e w' ⟨g', st', a, v, h1, h2, h3, h4⟩ => ?_
    subst h4
    rw [hr] at h
    unfold isTrue at h
    split at h
    · rename_i heq
      cases heq
      rw [h3.val_inv] at h1
      exact ⟨h1, h2.os, h2.tape, h2.output, h2.size, fun b hb => h2.frame b hb fun id o ho => by
        have := (St.wget_get ho).1
        simp [stTab, St.get, Tr.get] at this⟩
    · cases h
def tabsD : List (Nat × IntKind × List Int) := [(2, .u8, zs32), (3, .u8, zs64), (0, .u64, zs10)]
end Go.Proofs.YtemakfepcogeiaaDoor.E
