/- What Disk.Names comes to, over the abstract machine: a new slice that holds the files' names, sorted. No condition beyond those that the lemmas name. -/
import Derived.Test.YtniaiciabfdbnaaOv
import Derived.Sort.KeysCollected
import Derived.Shelf.SlIter.Nil
import Derived.Shelf.SortM.Plain
import Derived.Shelf.SortM.SortNone
import Derived.Ground.GgzProg
import Derived.Ground.SlgmProg
namespace Go.Proofs.Ytniaiciabfdbnaa.E
open Go Go.Proofs
set_option maxRecDepth 4000
open Go
/-- A new row that a call of another making has left. -/
theorem step_below_row {g : G} {st : St} {w w' : World} (h : OK g st w) (hb : RowKit.Below w.heap.size w w') {B : Nat} (hB : w.heap.size ≤ B) {cur : Array Value} {ty : TypeId} (hc : w'.heap[B]? = some (.cells cur ty (0, 0))) {vs : List AV} {us : List Value}
    (hv : VRs g vs us) (h1 : ∀ u ∈ us, u.oneCell' = true) (hp : us <+: cur.toList) : Step g st w (g.add B 0 cur.size) (st.push (.row vs ty)) w' := by
  have hle := g.le_add B 0 cur.size
  refine ⟨hle, ⟨fun b hb' => ?_, fun id o' hg => ?_, fun id o1 id' o2 h1 h2 he => ?_, fun id o' hg => ?_, by simp [h.n]⟩, hb.os, hb.tape, hb.output, hb.size, fun b hb' _ => hb.block b hb', fun id o' hg hlt => ?_, fun _ _ _ => rfl, rfl⟩
  · obtain ⟨cs, T, fr, k1, k2⟩ := h.imm b hb'
    exact ⟨cs, T, fr, by rw [hb.block b (h.immlt hb')]; exact k1, k2⟩
  · rw [St.get_push] at hg
    split at hg
    · rename_i e
      cases hg
      subst e
      refine ⟨Nat.lt_succ_self _, ?_⟩
      rw [← h.n]
      exact ⟨cur, (0, 0), us, by rw [G.add_blk]; exact hc, by simp, hv.mono hle, h1, by simpa using hp, .inl rfl⟩
    · obtain ⟨h1, h2⟩ := h.obj id o' hg
      exact ⟨Nat.lt_succ_of_lt h1, h2.keep hle (h.lt hg).1 (hb.block _ (h.lt hg).2)⟩
  · rw [St.get_push] at h1 h2
    rw [← h.n] at h1 h2
    split at h1 <;> split at h2
    · rename_i a b; exact a.trans b.symm
    · rename_i a b
      subst a
      rw [G.add_blk, hle.blk id' (h.lt h2).1] at he
      have := (h.lt h2).2
      omega
    · rename_i a b
      subst b
      rw [G.add_blk, hle.blk id (h.lt h1).1] at he
      have := (h.lt h1).2
      omega
    · rw [hle.blk id (h.lt h1).1, hle.blk id' (h.lt h2).1] at he
      exact h.inj id o1 id' o2 h1 h2 he
  · rw [St.get_push, ← h.n] at hg
    split at hg
    · rename_i e
      subst e
      rw [G.add_blk, G.add_M]
      by_cases hM : g.M B = []
      · exact hM
      · exact absurd (h.immlt hM) (by omega)
    · rw [hle.blk id (h.lt hg).1]
      exact h.sep id o' hg
  · rw [St.get_push, ← h.n] at hg
    split at hg
    · rename_i e
      subst e
      rw [G.add_blk] at hlt
      omega
    · exact ⟨id, o', hg, (hle.blk id (h.lt hg).1).symm, fun _ => ⟨rfl, rfl⟩⟩
theorem step_below {g : G} {st : St} {w w' : World} (h : OK g st w) (hb : RowKit.Below w.heap.size w w') : Step g st w g st w' :=
  ⟨.refl g, ⟨fun b hb' => by
      obtain ⟨cs, T, fr, k1, k2⟩ := h.imm b hb'
      exact ⟨cs, T, fr, by rw [hb.block b (h.immlt hb')]; exact k1, k2⟩, fun id o hg => ⟨(h.obj id o hg).1, (h.obj id o hg).2.keep (.refl g) (h.lt hg).1 (hb.block _ (h.lt hg).2)⟩, h.inj, h.sep, h.n⟩,
    hb.os, hb.tape, hb.output, hb.size, fun b hb' _ => hb.block b hb', fun id o hg _ => ⟨id, o, hg, rfl, fun _ => ⟨rfl, rfl⟩⟩, fun _ _ _ => rfl, rfl⟩
open Go.Maps Go.Sort
def keysB : List (AV × AV) → Option (List (List UInt8))
  | [] => some []
  | (.val (.string s), _) :: r => (keysB r).map (s.data.toList :: ·)
  | _ => none
def insB (a : List UInt8) : List (List UInt8) → List (List UInt8)
  | [] => [a]
  | b :: r => if leB a b then a :: b :: r else b :: insB a r
def sortB : List (List UInt8) → List (List UInt8)
  | [] => []
  | a :: r => insB a (sortB r)
def pairB : List (List UInt8) → Bool
  | [] => true
  | a :: r => r.all (leB a) && pairB r
theorem pairB_ok : ∀ (l : List (List UInt8)), pairB l = true → l.Pairwise (fun a b => leB a b = true)
  | [], _ => .nil
  | a :: r, h => by
    simp only [pairB, Bool.and_eq_true, List.all_eq_true] at h
    exact .cons h.1 (pairB_ok r h.2)
theorem insB_perm (a : List UInt8) : ∀ l, (insB a l).Perm (a :: l)
  | [] => .refl _
  | b :: r => by
    unfold insB
    split
    · exact .refl _
    · exact ((insB_perm a r).cons b).trans (.swap a b r)
theorem sortB_perm : ∀ l, (sortB l).Perm l
  | [] => .refl _
  | a :: r => (insB_perm a _).trans ((sortB_perm r).cons a)
theorem keysB_at : ∀ {es : List (AV × AV)} {ks : List (List UInt8)}, keysB es = some ks → es.map (·.1) = ks.map fun l => AV.val (.string ⟨l.toArray⟩)
  | [], ks, h => by simp only [keysB, Option.some.injEq] at h; subst h; rfl
  | (a, b) :: r, ks, h => by
    unfold keysB at h
    split at h
    · cases ‹_ :: _ = []›
    · rename_i s y r' heq
      cases heq
      obtain ⟨k', hk, rfl⟩ := Option.map_eq_some_iff.1 h
      simp [keysB_at hk]
    · cases h
def namesOv (args : List AV) (st : St) : Option (AV × St) :=
  match args with
  | [.ptr d 0] => match st.get d with
    | some (.row (.mp m :: _) _) => match st.get m with
      | some (.map es bs clock) => match keysB es with
        | some ks =>
          if pairB (sortB ks) = true ∧ ks.Nodup ∧ (ks.all fun l => decide (l.length ≤ 1000000)) = true ∧ ks.length ≤ 1000000 then
            (match sortB ks with
             | [] => some (.nils, st)
             | _ => some (.sl st.next 1 0 ks.length false, st.push (.row ((sortB ks).map fun l => .val (.string ⟨l.toArray⟩)) 9))) else none
        | none => none
      | _ => none
    | _ => none
  | _ => none
def NamesC : Prop := ∀ (B O b nn : Nat) (D0 : DataW Unit) (R : Value → Option (DataW Unit × List MemPlace)) (w : World), w.cell? ⟨B, O, none⟩ = some (.map (some b)) → w.ownsMap Try.prog 9 R b nn D0 → Maps.size D0 ≤ maxLen → Maps.size D0 * 16 ≤ 140737488355328 →
  Calls Try.prog 28 #[.pointer (some ⟨B, O, none⟩)] w fun e w' => ∃ (v : Value) (ss : List (List UInt8)), e = .returned v ∧ ss.Perm (strKeys D0) ∧ w'.ownsRow w.heap.size 9 1 v ss.length ((ss.mergeSort leB).map encStr) ∧ (v = .slice none 0 0 ↔ ss = []) ∧ RowKit.Below w.heap.size w w'

theorem namesOv_ok (hN : NamesC) {args : List AV} {st : St} {r : AV × St} (h : namesOv args st = some r) : ACalls Try.prog 28 args (fun a st' => (a, st') = r) st := by
  unfold namesOv at h
  split at h
  · rename_i d
    split at h
    · rename_i m rest ty hd
      split at h
      · rename_i es bs clock hm
        split at h
        · rename_i ks hk
          split at h
          · rename_i hc
            obtain ⟨hc1, hc2, hc3, hc4⟩ := hc
            intro g w us hok hv
            obtain ⟨us0, k1, k2, k3⟩ := hok.row_cells hd
            obtain ⟨es', m1, m2, m3, m4, m5⟩ := hok.map_at hm
            have hkm := keysB_at hk
            obtain ⟨u0, hu0, hvu0⟩ := k1.get (i := 0) (c := .mp m) rfl
            have hvm := hvu0
            cases hvm with
            | mp _ hmid =>
            have hcell := k3 0 _ hu0
            -- the keys, as they lie
            have hkeys : es'.toList.map (·.key) = ks.map encStr := by
              have h1 := m2.1
              rw [hkm] at h1
              apply List.ext_getElem?
              intro i
              have hl := h1.1
              by_cases hi : i < ks.length
              · obtain ⟨u, hu1, hu2⟩ := h1.get (i := i) (c := .val (.string ⟨(ks[i]).toArray⟩)) (by rw [List.getElem?_map, List.getElem?_eq_getElem hi]; rfl)
                rw [hu1, List.getElem?_map, List.getElem?_eq_getElem hi, hu2.val_inv]
                rfl
              · rw [List.getElem?_eq_none (by rw [hl, List.length_map]; omega), List.getElem?_eq_none (by rw [List.length_map]; omega)]
            have hsz : es'.size = ks.length := by have := congrArg List.length hkeys; simpa using this
            have hku : Try.prog.underlying 9 = some .string := Try.underlying9
            have hkey : ∀ x ∈ es'.toList, ∃ l ∈ ks, x.key = encStr l := fun x hx => by
              have : x.key ∈ ks.map encStr := by rw [← hkeys]; exact List.mem_map_of_mem hx
              obtain ⟨l, hl, he⟩ := List.mem_map.1 this
              exact ⟨l, hl, he.symm⟩
            let R : Value → Option (DataW Unit × List MemPlace) := fun _ => some (.nil, [])
            have hrd : ∀ x ∈ es'.toList, ∀ l, x.key = encStr l → l ∈ ks → WideElems.rd Try.prog 9 R x = some (.string l, .nil) := fun x hx l hl hlm => by
              have hlen := List.all_eq_true.1 hc3 l hlm
              simp only [decide_eq_true_eq] at hlen
              unfold WideElems.rd
              rw [hl]
              simp only [keyOf, hku, mapKey, R]
              rw [if_pos (by simp only [maxLen, ByteArray.size, List.size_toArray]; omega)]
              simp
            have F : WideElems.Fit Try.prog 9 R es' clock := ⟨by simp only [maxLen]; omega, ⟨fun x hx => m5 _ (by rw [← m3]; exact List.mem_map_of_mem hx), by rw [m3]; exact m4, by
                rw [hkeys]
                exact List.Pairwise.map encStr (fun a b hab he => hab (encStr_inj he)) hc2⟩,
              fun x hx => by obtain ⟨l, hl, he⟩ := hkey x hx; exact ⟨_, hrd x hx l he hl⟩⟩
            have hown : w.ownsMap Try.prog 9 R (g.blk m) es'.size (.map ((es'.toList.map (WideElems.rg Try.prog 9 R)).foldr DataW.insert [])) := ⟨es', clock, m1, F, Nat.le_refl _, rfl⟩
            have hDs : Maps.size (DataW.map ((es'.toList.map (WideElems.rg Try.prog 9 R)).foldr DataW.insert [])) = ks.length := by
              simp only [Maps.size]
              rw [length_sorted]
              simp [hsz]
            have hperm : (strKeys (DataW.map ((es'.toList.map (WideElems.rg Try.prog 9 R)).foldr DataW.insert []))).Perm ks := by
              simp only [strKeys]
              refine ((WideShapes.sorted_perm _).map _).trans ?_
              rw [List.map_map]
              have : es'.toList.map ((fun p => strOf p.1) ∘ WideElems.rg Try.prog 9 R) = ks := by
                have e1 : ∀ x ∈ es'.toList, encStr (((fun p => strOf p.1) ∘ WideElems.rg Try.prog 9 R) x) = x.key := fun x hx => by
                  obtain ⟨l, hl, he⟩ := hkey x hx
                  simp only [Function.comp, WideElems.rg_of (hrd x hx l he hl), strOf, he]
                have e2 : (es'.toList.map ((fun p => strOf p.1) ∘ WideElems.rg Try.prog 9 R)).map encStr = ks.map encStr := by
                  rw [← hkeys, List.map_map]
                  exact List.map_congr_left e1
                exact (List.map_inj_right (fun a b hab => encStr_inj hab)).1 e2
              rw [this]
            have hgo := hN (g.blk d) (g.base d + 0) (g.blk m) es'.size _ R w hcell hown (by rw [hDs]; simp only [maxLen]; omega) (by rw [hDs]; omega)
            have hus : us.toArray = #[.pointer (some ⟨g.blk d, g.base d + 0, none⟩)] := by
              have hl := hv.1
              match us, hv, hl with
              | [u], hv, _ => rw [hv.head.ptr_inv.2]
            rw [hus]
            refine hgo.mono fun e w' ⟨v, ss, he, hp, hrow, hnil, hb⟩ => ?_
            have hss : ss.Perm ks := hp.trans hperm
            have hms : ss.mergeSort leB = sortB ks := by
              rw [mergeSort_of_perm (hss.trans (sortB_perm ks).symm)]
              exact List.mergeSort_of_pairwise (pairB_ok _ hc1)
            have hsl : ss.length = ks.length := hss.length_eq
            rw [hms] at hrow
            rcases hrow.2 with ⟨rfl, hz⟩ | ⟨gb, cap, cur, rfl, hge, hcur, q1, q2, q3, q4⟩
            · have : ks = [] := List.eq_nil_of_length_eq_zero (by omega)
              subst this
              simp only [sortB, Option.some.injEq] at h
              subst h
              exact ⟨g, st, _, _, he, step_below hok hb, .nils, rfl⟩
            · have hne : ks ≠ [] := by
                intro e
                subst e
                have : ss = [] := List.eq_nil_of_length_eq_zero hsl
                have := hnil.2 this
                cases this
              have hr : r = (.sl st.next 1 0 ks.length false, st.push (.row ((sortB ks).map fun l => .val (.string ⟨l.toArray⟩)) 9)) := by
                split at h
                · rename_i hs
                  have := (sortB_perm ks).length_eq
                  rw [hs] at this
                  exact absurd (List.eq_nil_of_length_eq_zero this.symm) hne
                · simpa using h.symm
              have hsb : (sortB ks).length = ks.length := (sortB_perm ks).length_eq
              have hvs : VRs g ((sortB ks).map fun l => AV.val (.string ⟨l.toArray⟩)) ((sortB ks).map encStr) := .of_get (by simp) fun i c u hc' hu => by
                rw [List.getElem?_map] at hc' hu
                obtain ⟨l, hl, rfl⟩ := Option.map_eq_some_iff.1 hc'
                rw [hl] at hu
                cases hu
                exact .val _ rfl
              have hpre : (sortB ks).map encStr <+: cur.toList := by
                rw [← q4]
                exact List.take_prefix _ _
              refine ⟨_, _, _, _, he, step_below_row hok hb hge hcur hvs (fun u hu => ?_) hpre, ?_, hr.symm⟩
              · obtain ⟨l, _, rfl⟩ := List.mem_map.1 hu
                rfl
              · have := VR.sl (g := g.add gb 0 cur.size) g.n 1 0 ks.length cap false (Nat.lt_succ_self _) (by rw [G.add_siz, q3]; omega) (by omega) (fun h => by cases h) q2
                rw [← hok.n, hsl]
                simpa using this
          · cases h
        · cases h
      · cases h
    · cases h
  · cases h
open Go.RowKit Go.Maps Go.Sort Go.Shelf

-- the shelf's contracts, laid by the kit's command (lay-iter): maps.Keys (67, its iterator 88), slices.Sorted (66), slices.Sort (87)
def Try.keys67_ren : Go.Shelf.Ren := ⟨fun | 7 => 67 | 10 => 88 | n => n, fun | 23 => 101 | 26 => 9 | 3 => 105 | 28 => 110 | 0 => 0 | 27 => 109 | 33 => 116 | 4 => 4 | n => n, fun | n => n⟩
theorem Try.keys67 : Go.Proofs.SlLaysZ.n7 Try.prog Try.keys67_ren := {
  mixed := by kernel_rfl
  f7 := ⟨Try.f67.name, by decide, Try.func67.trans (congrArg some (by kernel_rfl))⟩
  f10 := ⟨Try.f88.name, by decide, Try.func88.trans (congrArg some (by kernel_rfl))⟩
  t0 := Try.underlying0
  a0 := Try.isAgg0
  z0 := Try.sizeOf0
  v0 := Try.zeroValue0
  t4 := Try.underlying4
  a4 := Try.isAgg4
  z4 := Try.sizeOf4
  v4 := Try.zeroValue4
  t23 := Try.underlying101
  a23 := Try.isAgg101
  z23 := Try.sizeOf101
  v23 := Try.zeroValue101
  t26 := Try.underlying9
  a26 := Try.isAgg9
  z26 := Try.sizeOf9
  v26 := Try.zeroValue9
  t27 := Try.underlying109
  a27 := Try.isAgg109
  z27 := Try.sizeOf109
  v27 := Try.zeroValue109
  t28 := Try.underlying110
  a28 := Try.isAgg110
  z28 := Try.sizeOf110
  v28 := Try.zeroValue110
  t33 := Try.underlying116
  a33 := Try.isAgg116
  z33 := Try.sizeOf116
  v33 := Try.zeroValue116 }
def Try.sorted66_ren : Go.Shelf.Ren := ⟨fun | 6 => 66 | 8 => 86 | 9 => 87 | 11 => 90 | 13 => 92 | 12 => 91 | 23 => 102 | 24 => 103 | 14 => 93 | 15 => 94 | 16 => 95 | 17 => 96 | 18 => 97 | 19 => 98 | 20 => 99 | 21 => 100 | 22 => 101 | 25 => 104 | 26 => 105 | 27 => 106 | 28 => 107 | 29 => 108 | 30 => 109 | 31 => 110 | n => n, fun | 26 => 9 | 28 => 110 | 24 => 54 | 0 => 0 | 3 => 3 | 37 => 125 | 48 => 88 | 50 => 22 | 4 => 4 | 40 => 137 | 39 => 136 | 45 => 117 | 5 => 5 | 9 => 9 | 51 => 145 | 55 => 149 | 57 => 151 | 58 => 74 | 33 => 116 | n => n, fun | n => n⟩
theorem Try.sorted66 : Go.Proofs.SlLaysZ.n6 Try.prog Try.sorted66_ren := {
  mixed := by kernel_rfl
  f6 := ⟨Try.f66.name, by decide, Try.func66.trans (congrArg some (by kernel_rfl))⟩
  f8 := ⟨Try.f86.name, by decide, Try.func86.trans (congrArg some (by kernel_rfl))⟩
  f11 := ⟨Try.f90.name, by decide, Try.func90.trans (congrArg some (by kernel_rfl))⟩
  t0 := Try.underlying0
  a0 := Try.isAgg0
  z0 := Try.sizeOf0
  v0 := Try.zeroValue0
  t24 := Try.underlying54
  a24 := Try.isAgg54
  z24 := Try.sizeOf54
  v24 := Try.zeroValue54
  t26 := Try.underlying9
  a26 := Try.isAgg9
  z26 := Try.sizeOf9
  v26 := Try.zeroValue9
  t28 := Try.underlying110
  a28 := Try.isAgg110
  z28 := Try.sizeOf110
  v28 := Try.zeroValue110
  i26 := by kernel_rfl }
def Try.sort87_ren : Go.Shelf.Ren := ⟨fun | 6 => 87 | 8 => 92 | 9 => 91 | 19 => 102 | 20 => 103 | 21 => 93 | 22 => 94 | 23 => 95 | 24 => 96 | 25 => 97 | 26 => 98 | 27 => 99 | 28 => 100 | 29 => 101 | 36 => 104 | 31 => 105 | 32 => 106 | 37 => 107 | 38 => 108 | 39 => 109 | 41 => 110 | n => n, fun | 27 => 54 | 29 => 9 | 3 => 3 | 32 => 125 | 26 => 54 | 0 => 0 | 44 => 88 | 46 => 22 | 4 => 4 | 36 => 137 | 35 => 136 | 41 => 117 | 5 => 5 | 9 => 9 | 53 => 145 | 57 => 149 | 63 => 151 | 64 => 74 | n => n, fun | n => n⟩
theorem Try.sort87 : Go.Proofs.SlLaysM.n6 Try.prog Try.sort87_ren := {
  mixed := by kernel_rfl
  f6 := ⟨Try.f87.name, by decide, Try.func87.trans (congrArg some (by kernel_rfl))⟩
  f8 := Try.func92.trans (congrArg some (by kernel_rfl))
  f9 := ⟨Try.f91.name, by decide, Try.func91.trans (congrArg some (by kernel_rfl))⟩
  f19 := Try.func102.trans (congrArg some (by kernel_rfl))
  f20 := Try.func103.trans (congrArg some (by kernel_rfl))
  f21 := ⟨Try.f93.name, by decide, Try.func93.trans (congrArg some (by kernel_rfl))⟩
  f22 := ⟨Try.f94.name, by decide, Try.func94.trans (congrArg some (by kernel_rfl))⟩
  f23 := ⟨Try.f95.name, by decide, Try.func95.trans (congrArg some (by kernel_rfl))⟩
  f24 := ⟨Try.f96.name, by decide, Try.func96.trans (congrArg some (by kernel_rfl))⟩
  f25 := ⟨Try.f97.name, by decide, Try.func97.trans (congrArg some (by kernel_rfl))⟩
  f26 := ⟨Try.f98.name, by decide, Try.func98.trans (congrArg some (by kernel_rfl))⟩
  f27 := ⟨Try.f99.name, by decide, Try.func99.trans (congrArg some (by kernel_rfl))⟩
  f28 := ⟨Try.f100.name, by decide, Try.func100.trans (congrArg some (by kernel_rfl))⟩
  f29 := ⟨Try.f101.name, by decide, Try.func101.trans (congrArg some (by kernel_rfl))⟩
  f31 := Try.func105.trans (congrArg some (by kernel_rfl))
  f32 := Try.func106.trans (congrArg some (by kernel_rfl))
  f36 := ⟨Try.f104.name, by decide, Try.func104.trans (congrArg some (by kernel_rfl))⟩
  f37 := ⟨Try.f107.name, by decide, Try.func107.trans (congrArg some (by kernel_rfl))⟩
  f38 := ⟨Try.f108.name, by decide, Try.func108.trans (congrArg some (by kernel_rfl))⟩
  f39 := ⟨Try.f109.name, by decide, Try.func109.trans (congrArg some (by kernel_rfl))⟩
  f41 := ⟨Try.f110.name, by decide, Try.func110.trans (congrArg some (by kernel_rfl))⟩
  t0 := Try.underlying0
  a0 := Try.isAgg0
  z0 := Try.sizeOf0
  v0 := Try.zeroValue0
  t3 := Try.underlying3
  a3 := Try.isAgg3
  z3 := Try.sizeOf3
  v3 := Try.zeroValue3
  t4 := Try.underlying4
  a4 := Try.isAgg4
  z4 := Try.sizeOf4
  v4 := Try.zeroValue4
  t5 := Try.underlying5
  a5 := Try.isAgg5
  z5 := Try.sizeOf5
  v5 := Try.zeroValue5
  t9 := Try.underlying9
  a9 := Try.isAgg9
  z9 := Try.sizeOf9
  v9 := Try.zeroValue9
  t26 := Try.underlying54
  a26 := Try.isAgg54
  z26 := Try.sizeOf54
  v26 := Try.zeroValue54
  t27 := Try.underlying54
  a27 := Try.isAgg54
  z27 := Try.sizeOf54
  v27 := Try.zeroValue54
  t29 := Try.underlying9
  a29 := Try.isAgg9
  z29 := Try.sizeOf9
  v29 := Try.zeroValue9
  t32 := Try.underlying125
  a32 := Try.isAgg125
  z32 := Try.sizeOf125
  v32 := Try.zeroValue125
  t35 := Try.underlying136
  a35 := Try.isAgg136
  z35 := Try.sizeOf136
  v35 := Try.zeroValue136
  t36 := Try.underlying137
  a36 := Try.isAgg137
  z36 := Try.sizeOf137
  v36 := Try.zeroValue137
  t41 := Try.underlying117
  a41 := Try.isAgg117
  z41 := Try.sizeOf117
  v41 := Try.zeroValue117
  t44 := Try.underlying88
  a44 := Try.isAgg88
  z44 := Try.sizeOf88
  v44 := Try.zeroValue88
  t46 := Try.underlying22
  a46 := Try.isAgg22
  z46 := Try.sizeOf22
  v46 := Try.zeroValue22
  t53 := Try.underlying145
  a53 := Try.isAgg145
  z53 := Try.sizeOf145
  v53 := Try.zeroValue145
  t57 := Try.underlying149
  a57 := Try.isAgg149
  z57 := Try.sizeOf149
  v57 := Try.zeroValue149
  t63 := Try.underlying151
  a63 := Try.isAgg151
  z63 := Try.sizeOf151
  v63 := Try.zeroValue151
  t64 := Try.underlying74
  a64 := Try.isAgg74
  z64 := Try.sizeOf74
  v64 := Try.zeroValue74 }

theorem sorts66 (m : Nat) : AnyZ.SortsIn Try.prog Try.sorted66_ren Fence.wide m :=
  ⟨fun blk off cap ss W hH hblk hsz => callsIn_wide.2 (AnyM.slices_Sort_string Try.sort87 blk off cap ss W hH hblk hsz),
   fun p cap W => callsIn_wide.2 (AnyM.slices_Sort_string_none Try.sort87 p cap W)⟩
theorem keys67C (mb : Option Nat) (W : World) : CallsIn Fence.wide 5 Try.prog 67 #[.map mb] W fun e w' => e = .returned (.func (.func 88) #[] #[.pointer (some ⟨W.heap.size, 0, none⟩)]) ∧ w' = W.alloc (.cells #[.map mb] 101) :=
  AnyZ.keys_in Try.keys67 Fence.wide 5 trivial rfl mb W

set_option maxHeartbeats 1000000 in
theorem sorted66C {H : Type} (b nn : Nat) (D0 : DataW H) (R : Value → Option (DataW H × List MemPlace)) (w : World) (hown : w.ownsMap Try.prog 9 R b nn D0) (hmax : Maps.size D0 ≤ maxLen) (hbytes : Maps.size D0 * 16 ≤ 140737488355328) :
    CallsIn Fence.wide 5 Try.prog 66 #[.func (.func 88) #[] #[.pointer (some ⟨w.heap.size, 0, none⟩)]] (w.alloc (.cells #[.map (some b)] 101)) fun e w' => ∃ (v : Value) (ss : List (List UInt8)), e = .returned v ∧ ss.Perm (strKeys D0) ∧
      w'.ownsRow (w.alloc (.cells #[.map (some b)] 101)).heap.size 9 1 v ss.length ((ss.mergeSort (fun x y => decide (x ≤ y))).map encStr) ∧ (v = .slice none 0 0 ↔ ss = []) ∧ Below (w.alloc (.cells #[.map (some b)] 101)).heap.size (w.alloc (.cells #[.map (some b)] 101)) w' := by
  have hbl := hown.lt
  have hseq : SeqGives Fence.wide 2 Try.prog 88 #[.pointer (some ⟨w.heap.size, 0, none⟩)] encStr (fun ss => ss.Perm (strKeys D0)) (Maps.size D0) (w.alloc (.cells #[.map (some b)] 101)) :=
    AnyZ.keys_gives (ρ := Try.keys67_ren) { Try.keys67 with } Fence.wide _ trivial rfl (by omega) w.heap.size b nn D0 _ (by simp) (by simp) (by
      obtain ⟨es, clock, hb, Ft, hs, hD⟩ := hown
      exact ⟨es, clock, (Below.heap_alloc _ _ b hbl).trans hb, Ft, hs, hD⟩)
  exact AnyZ.sorted_in Try.sorted66 Fence.wide 5 trivial trivial trivial trivial rfl (by omega) (sorts66 _) (enters_of Try.func87 (by kernel_rfl) rfl) 88 #[.pointer (some ⟨w.heap.size, 0, none⟩)] trivial (enters_of Try.func88 (by kernel_rfl) rfl) _ _ hmax hbytes _ hseq

set_option maxHeartbeats 1000000 in
theorem namesC : NamesC := by
  intro B O b nn D0 R w hcell hown hmax hbytes
  refine (callsIn_wide (n := 6)).1 ?_
  have hfK : Fence.wide.fn 67 := trivial
  have hfS : Fence.wide.fn 66 := trivial
  refine callsIn_of_wp Try.func28 rfl trivial ?_ rfl
  simp only [Try.ntmps28, List.size_toArray, List.length_cons, List.length_nil, Nat.reduceAdd, Nat.reduceSub, Array.replicate_succ, Array.replicate_zero, List.push_toArray, List.append_toArray, List.nil_append, List.cons_append]
  gi_wp2_with (first
    | (gi_at_call 67; refine (keys67C _ _).mono ?_; rintro e w' ⟨rfl, rfl⟩)
    | (gi_at_call 66; refine (sorted66C b nn D0 R w hown hmax hbytes).mono ?_; rintro e w' ⟨v, ss, rfl, hS, hrow, hnil, hb⟩))
  go_ret
  exact ⟨v, ss, rfl, hS, ownsRow_base_a hrow (by simp), hnil, ((Below.refl _ w).alloc (Nat.le_refl _) _).trans (hb.mono (by simp))⟩
def ovF : Ov := fun f args st => if f = 28 then namesOv args st else ovK f args st
theorem ovF_ok : ∀ f args st r, ovF f args st = some r → ACalls Try.prog f args (fun a st' => (a, st') = r) st := by
  intro f args st r h
  unfold ovF at h
  split at h
  · rename_i hf; subst hf; exact namesOv_ok namesC h
  · exact ovK_ok f args st r h
theorem closedF {f k : Nat} (h : isTrue (evCall E0 ovF k f [] st00) = true) (W : World) : Calls Try.prog f #[] W fun e w' => e = .returned (.bool true) ∧ RowKit.Below W.heap.size W w' := by
  cases hr : evCall E0 ovF k f [] st00 with
  | none => rw [hr] at h; cases h
  | some r =>
    have hc := (ev_ok (envOf_ok (P := Try.prog) rfl) ovF_ok k).call f [] st00 r hr g00 W [] (ok00 W) (.nil _)
    refine hc.mono fun e w' ⟨g', st', a, v, h1, h2, h3, h4⟩ => ?_
    subst h4
    rw [hr] at h
    unfold isTrue at h
    split at h
    · rename_i heq
      cases heq
      rw [h3.val_inv] at h1
      exact ⟨h1, h2.os, h2.tape, h2.output, h2.size, fun b hb => h2.frame b hb fun id o ho => by
        have := (St.wget_get ho).1
        simp [st00, St.get, Tr.get] at this⟩
    · cases h
end Go.Proofs.Ytniaiciabfdbnaa.E
