/- disk: the names of the files, in their order. -/
import Derived.Test.YtccebpahnnfceaaGreatDoorJDisk
import Derived.Test.YtccebpahnnfceaaGreatDoorJIter
namespace Go.Vc
theorem St.adopt {B : Bs} {w w' : World} {S : Hp} {L : Own} {g : Nat} {o : Obj} (h : St B w S L) (h' : St B w' S L) (hg : w.heap.size ≤ g) (ho : hp w' g = some o) : St B w' S ((g, o) :: L) := by
  refine ⟨h'.os, h'.out, h'.sh, fun p hp' => ?_, ?_⟩
  · cases hp' with
    | head =>
      refine ⟨ho, ?_⟩
      cases hs : S g with
      | none => rfl
      | some q => exact absurd (h.ltS hs) (by omega)
    | tail _ hm => exact h'.own p hm
  · rw [List.map_cons, List.nodup_cons]
    refine ⟨fun hm => ?_, h'.nd⟩
    obtain ⟨p, hp', e⟩ := List.mem_map.1 hm
    have := h.lt hp'
    rw [e] at this
    omega
theorem OwnSl.ofRow {B : Bs} {w w' : World} {S : Hp} {L : Own} {E : TypeId} {size : Nat} {v : Value} {n : Nat} {xs : List Value} (h : St B w S L) (h' : St B w' S L) (hr : w'.ownsRow w.heap.size E size v n xs) : ∃ s ow, v = Sl.v s ∧ s.len = n ∧ OwnSl E size s xs ow ∧ St B w' S (ow ++ L) := by
  obtain ⟨hl, ⟨rfl, rfl⟩ | ⟨g, cap, cur, rfl, hg, hb, h1, h2, h3, h4⟩⟩ := hr
  · exact ⟨⟨none, 0, 0⟩, [], rfl, rfl, ⟨hl, .inl ⟨rfl, rfl⟩⟩, h'⟩
  · exact ⟨⟨some ⟨g, 0, none⟩, n, cap⟩, [(g, .cells cur E)], rfl, rfl, ⟨hl, .inr ⟨g, cur, rfl, rfl, h1, h2, h3, h4⟩⟩, h.adopt h' hg hb⟩
end Go.Vc
namespace Go.Proofs.YtccebpahnnfceaaGreatDoor
open Go.Vc
set_option linter.unusedVariables false
set_option linter.unusedSimpArgs false
def sortN (ns : List ByteArray) : List ByteArray := ((ns.map strL).mergeSort leB).map fun l => ⟨l.toArray⟩
def anyR : Value → Option (DataW Unit × List MemPlace) := fun _ => some (.nil, [])
theorem rg_str {e : MapEntry} {s : ByteArray} (hk : e.key = .string s) (hs : s.size ≤ maxLen) : WideElems.rd Tryz.prog 9 anyR e = some (.string (strL s), .nil) := by
  unfold WideElems.rd keyOf mapKey
  simp [Tryz.underlying9, hk, hs, anyR]
theorem maps_own {w : World} {mb : Nat} {es : Array MapEntry} {clock : Nat} {m : MapL} (hb : hp w mb = some (.map es clock)) (hm : MapOk es clock m) (hs : ∀ p ∈ m, p.1.size ≤ maxLen) (hl : m.length ≤ 1000000) :
    ∃ D0 : DataW Unit, w.ownsMap Tryz.prog 9 anyR mb m.length D0 ∧ Maps.size D0 = m.length ∧ (strKeys D0).Perm (m.map fun p => strL p.1) := by
  have hlen : es.size = m.length := by have := congrArg List.length hm.kv; simpa using this
  have hrd : ∀ e ∈ es.toList, ∃ p ∈ m, e.key = .string p.1 ∧ WideElems.rd Tryz.prog 9 anyR e = some (.string (strL p.1), .nil) := fun e he => by
    have : kvE e ∈ m.map kvM := hm.kv ▸ List.mem_map.2 ⟨e, he, rfl⟩
    obtain ⟨p, hp, e1⟩ := List.mem_map.1 this
    simp only [kvE, kvM, Prod.mk.injEq] at e1
    exact ⟨p, hp, e1.1.symm, rg_str e1.1.symm (hs p hp)⟩
  refine ⟨.map ((es.toList.map (WideElems.rg Tryz.prog 9 anyR)).foldr DataW.insert []), ⟨es, clock, hb, ⟨by rw [hlen]; unfold maxLen; omega, ⟨hm.old, hm.borns, ?_⟩, fun x hx => ?_⟩, by omega, rfl⟩, ?_, ?_⟩
  · have : (es.toList.map (·.key)) = (m.map Prod.fst).map Value.string := by
      have := congrArg (List.map Prod.fst) hm.kv
      rw [List.map_map, List.map_map] at this
      rw [List.map_map]
      exact this
    rw [this]
    exact List.Pairwise.map _ (fun a b hab => by simpa using hab) hm.keys
  · obtain ⟨p, _, _, h⟩ := hrd x hx
    exact ⟨_, h⟩
  · show ((es.toList.map (WideElems.rg Tryz.prog 9 anyR)).foldr DataW.insert []).length = _
    rw [(WideShapes.sorted_perm _).length_eq]; simpa using hlen
  · show (((es.toList.map (WideElems.rg Tryz.prog 9 anyR)).foldr DataW.insert []).map fun p => strOf p.1).Perm _
    refine ((WideShapes.sorted_perm _).map _).trans ?_
    rw [List.map_map]
    have : es.toList.map ((fun p : Lit × DataW Unit => strOf p.1) ∘ WideElems.rg Tryz.prog 9 anyR) = m.map fun p => strL p.1 := by
      have h2 : es.toList.map ((fun p : Lit × DataW Unit => strOf p.1) ∘ WideElems.rg Tryz.prog 9 anyR) = (es.toList.map kvE).map fun q => match q.1 with | .string s => strL s | _ => [] := by
        rw [List.map_map]
        refine List.map_congr_left fun e he => ?_
        obtain ⟨p, _, h1, h⟩ := hrd e he
        simp only [Function.comp, WideElems.rg, h, Option.getD_some, strOf, kvE, h1]
      rw [h2, hm.kv, List.map_map]
      rfl
    rw [this]
theorem sortedKeys_ok {B : Bs} {w : World} {S : Hp} {L : Own} {mb : Nat} {es : Array MapEntry} {clock : Nat} {m : MapL} {K : Sl → World → Prop} (h : St B w S L) (hb : hp w mb = some (.map es clock)) (hm : MapOk es clock m) (hs : ∀ p ∈ m, p.1.size ≤ maxLen) (hl : m.length ≤ 1000000)
    (kk : ∀ S' r w', Sub S S' → St B w' S' L → RdV S' 1 r ((sortN (m.map Prod.fst)).map strV) → r.cap ≤ maxLen → r.len = m.length → K r w') :
    CallP Tryz.prog n_maps_Keys_map_string_disk_file_string_disk_file [.map (some mb)] w (ret1 tV (fun r_1 vw_1 => CallP Tryz.prog n_slices_Sorted_string [r_1.1] vw_1 (ret1 tSl K))) := by
  obtain ⟨D0, hown, hsz, hperm⟩ := maps_own hb hm hs hl
  have hk := (callsIn_wide (n := 5)).1 (Tryz.maps_Keys_35 (some mb) w)
  refine Calls.mono hk ?_
  rintro e w' ⟨rfl, rfl⟩
  refine ⟨_, rfl, ⟨.func (.func 60) #[] #[.pointer (some ⟨w.heap.size, 0, none⟩)], rfl⟩, rfl, ?_⟩
  have h1 := h.alloc (.cells #[.map (some mb)] 55)
  have hk2 := (callsIn_wide (n := 5)).1 (Tryz.slices_Sorted_keys_34_35 mb m.length D0 anyR w hown (by rw [hsz]; unfold maxLen; omega) (by rw [hsz]; omega))
  refine Calls.mono hk2 ?_
  rintro e w2 ⟨v, ss, rfl, hss, hrow, _, hbel⟩
  have h2 := h1.grow hbel.os hbel.output (fun x hx => hbel.block x hx)
  obtain ⟨s, ow, rfl, hsl, ho, h3⟩ := OwnSl.ofRow h1 h2 hrow
  obtain ⟨S', hS', h4, hr⟩ := ho.share h3
  have hpm : ss.Perm ((m.map Prod.fst).map strL) := by rw [List.map_map]; exact hss.trans hperm
  have hsrt : ss.mergeSort leB = ((m.map Prod.fst).map strL).mergeSort leB := mergeSort_of_perm hpm
  refine ⟨_, rfl, s, rfl, kk S' s w2 hS' h4.tail ?_ ho.cap.1 ?_⟩
  · have e1 : (ss.mergeSort (fun x y => decide (x ≤ y))).map Proofs.encStr = (sortN (m.map Prod.fst)).map strV := by
      show (ss.mergeSort leB).map _ = _
      rw [hsrt, sortN]
      generalize ((m.map Prod.fst).map strL).mergeSort leB = z
      rw [List.map_map]
      rfl
    rw [← e1]; exact hr
  · rw [hsl]; have := hpm.length_eq; simpa using this
theorem Names_ok {B : Bs} {w : World} {S : Hp} {F ow : Own} {d : Nat} {D : DM} (h : St B w S (ow ++ F)) (hd : DiskO d D ow) (hoff : D.off = false) (hn : ∀ p ∈ D.files, dNamed p.1 = true) (hl : D.files.length ≤ 1000000) :
    CallP Tryz.prog n_disk_Disk_Names [.pointer (pt d)] w (ret1 tSl fun r w' => ∃ S', Sub S S' ∧ St B w' S' (ow ++ F) ∧ RdV S' 1 r ((sortN (D.files.map Prod.fst)).map strV) ∧ r.cap ≤ maxLen) := by
  obtain ⟨rs, mb, es, clock, fz, st, hD, rfl⟩ := hd
  refine vc_disk_Disk_Names _ _ _ ?_
  unfold F_disk_Disk_Names
  refine (asked_ok (D := D) (mb := mb) (fz := fz) (st := st) (ns := []) h (by simp [dOw]) (fun w' h' => RdV.nil _ _) hoff (by simp) (by simp)).mono1 ?_
  rintro e w1 ⟨rfl, h1⟩
  refine ⟨fun hc => absurd rfl hc, fun _ => v_nz (v_ldo h1.head.1 (some mb) ?_)⟩
  have hf := hD.files
  refine sortedKeys_ok h1 h1.tail.head.1 hD.map (fun p hp => ?_) ?_ fun S' r w' hS' h' hr hc hrl => ⟨S', hS', h', ?_, hc⟩
  · obtain ⟨q, hq, rfl⟩ := List.mem_map.1 hp
    have := hn (nf q) (by rw [hf]; exact List.mem_map.2 ⟨q, hq, rfl⟩)
    unfold dNamed at this
    simp only [Bool.and_eq_true, decide_eq_true_eq] at this
    show q.name.size ≤ maxLen
    have : q.name.size ≤ 24 := this.1.2
    unfold maxLen; omega
  · rw [hf] at hl; simpa using hl
  · rw [hf, List.map_map]
    rw [List.map_map] at hr
    exact hr
end Go.Proofs.YtccebpahnnfceaaGreatDoor
