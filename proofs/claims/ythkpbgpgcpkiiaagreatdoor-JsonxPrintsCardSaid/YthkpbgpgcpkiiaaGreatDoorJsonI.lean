/- JSON: the order of members changes nothing of the print. Conditions: none. -/
import Derived.Test.YthkpbgpgcpkiiaaGreatDoorJsonH
namespace Go.Proofs.YthkpbgpgcpkiiaaGreatDoor
set_option linter.unusedVariables false
set_option linter.unusedSimpArgs false
set_option maxRecDepth 100000

/-! Texts by their bytes. -/
theorem lt_irrefl : ∀ a : B, ltB a a = false
  | [] => rfl
  | c :: a => by
    rw [ltB, if_neg (UInt8.lt_irrefl c), if_neg (UInt8.lt_irrefl c)]; exact lt_irrefl a
theorem lt_trans : ∀ {a b c : B}, ltB a b = true → ltB b c = true → ltB a c = true
  | a, [], c, h, _ => by cases a <;> cases h
  | a, y :: b, [], _, h => by cases h
  | [], y :: b, z :: c, _, _ => rfl
  | x :: a, y :: b, z :: c, h1, h2 => by
    rw [ltB] at h1 h2 ⊢
    by_cases e1 : x < y
    · by_cases e2 : y < z
      · rw [if_pos (UInt8.lt_trans e1 e2)]
      · rw [if_neg e2] at h2
        by_cases e3 : z < y
        · rw [if_pos e3] at h2; cases h2
        · have : y = z := UInt8.le_antisymm (UInt8.not_lt.1 e3) (UInt8.not_lt.1 e2)
          subst this
          rw [if_pos e1]
    · rw [if_neg e1] at h1
      by_cases e3 : y < x
      · rw [if_pos e3] at h1; cases h1
      · rw [if_neg e3] at h1
        have : x = y := UInt8.le_antisymm (UInt8.not_lt.1 e3) (UInt8.not_lt.1 e1)
        subst this
        by_cases e2 : x < z
        · rw [if_pos e2]
        · rw [if_neg e2] at h2 ⊢
          by_cases e4 : z < x
          · rw [if_pos e4] at h2; cases h2
          · rw [if_neg e4] at h2 ⊢
            exact lt_trans h1 h2
theorem lt_total : ∀ {a b : B}, ltB a b = false → ltB b a = false → a = b
  | [], [], _, _ => rfl
  | [], _ :: _, h, _ => by cases h
  | _ :: _, [], _, h => by cases h
  | x :: a, y :: b, h1, h2 => by
    rw [ltB] at h1 h2
    by_cases e1 : x < y
    · rw [if_pos e1] at h1; cases h1
    · rw [if_neg e1] at h1 h2
      by_cases e3 : y < x
      · rw [if_pos e3] at h2; cases h2
      · rw [if_neg e3] at h1 h2
        have : x = y := UInt8.le_antisymm (UInt8.not_lt.1 e3) (UInt8.not_lt.1 e1)
        subst this
        rw [lt_total h1 h2]
theorem lt_asymm {a b : B} (h : ltB a b = true) : ltB b a = false := by
  cases h2 : ltB b a with
  | false => rfl
  | true => have := lt_trans h h2; rw [lt_irrefl] at this; cases this

/-- Rising names. -/
def Rising {α : Type} (l : List (B × α)) : Prop := l.Pairwise fun p q => ltB p.1 q.1 = true
theorem ins_rising {α : Type} {p : B × α} : ∀ {l : List (B × α)}, Rising l → (∀ q ∈ l, p.1 ≠ q.1) → Rising (insP p l)
  | [], _, _ => List.pairwise_singleton _ _
  | q :: l, h, hn => by
    have h' := List.pairwise_cons.1 h
    rw [insP]
    split
    · rename_i hlt
      refine List.pairwise_cons.2 ⟨fun r hr => ?_, h⟩
      rcases List.mem_cons.1 hr with rfl | hr
      · exact hlt
      · exact lt_trans hlt (h'.1 r hr)
    · rename_i hlt
      refine List.pairwise_cons.2 ⟨fun r hr => ?_, ins_rising h'.2 fun r hr => hn r (by simp [hr])⟩
      rcases List.mem_cons.1 ((ins_perm p l).mem_iff.1 hr) with rfl | hr
      · cases h3 : ltB q.1 r.1 with
        | true => rfl
        | false => exact absurd (lt_total (by simpa using hlt) h3) (hn q (by simp))
      · exact h'.1 r hr
theorem sort_rising {α : Type} : ∀ {l : List (B × α)}, (l.map (·.1)).Nodup → Rising (sortP l)
  | [], _ => List.Pairwise.nil
  | p :: l, h => by
    rw [List.map_cons, List.nodup_cons] at h
    have ih := sort_rising h.2
    have e : sortP (p :: l) = insP p (sortP l) := rfl
    rw [e]
    refine ins_rising ih fun q hq hpq => h.1 ?_
    rw [hpq]
    exact List.mem_map_of_mem (sort_mem.1 hq)
theorem rising_unique {α : Type} {l m : List (B × α)} (hl : Rising l) (hm : Rising m) (h : l.Perm m) : l = m :=
  List.Perm.eq_of_pairwise (fun a b _ _ h1 h2 => by rw [lt_asymm h1] at h2; cases h2) hl hm h
theorem sort_of_rising {α : Type} {l : List (B × α)} (h : Rising l) (hn : (l.map (·.1)).Nodup) : sortP l = l := rising_unique (sort_rising hn) h (sort_perm l)
theorem sort_of_perm {α : Type} {l m : List (B × α)} (hn : (l.map (·.1)).Nodup) (h : l.Perm m) : sortP l = sortP m :=
  rising_unique (sort_rising hn) (sort_rising ((h.map _).nodup_iff.1 hn)) ((sort_perm l).trans (h.trans (sort_perm m).symm))
theorem zip_pair {α : Type} : ∀ l : List (B × α), (l.map (·.1)).zip (l.map (·.2)) = l
  | [] => rfl
  | p :: l => by simp [zip_pair l]

/-- A value with its members by rising names: as good as the value. -/
theorem canon_same : ∀ v : J, ∀ deep, Can deep v → Can deep (canonJ v) ∧ textJ (canonJ v) = textJ v := by
  intro v
  induction v using J.ind with
  | h k n t ns is ih =>
    intro deep hc
    obtain ⟨h1, h2, h3, h4⟩ := check_parts hc.1
    have hw := hc.2
    rw [wfJ] at hw
    simp only [Bool.and_eq_true, decide_eq_true_eq] at hw
    obtain ⟨⟨w1, w2⟩, w3⟩ := hw
    rcases blank_kinds h2 with ⟨rfl, rfl, rfl, rfl, rfl⟩ | ⟨rfl, hn, rfl, rfl, rfl⟩ | ⟨rfl, rfl, rfl, rfl⟩ | ⟨rfl, rfl, rfl, rfl, ht⟩ | ⟨rfl, rfl, rfl, rfl⟩ | ⟨rfl, rfl, rfl, hl, hwf, hws⟩
    · rw [canonJ, if_neg (by decide), canonsJ]; exact ⟨hc, rfl⟩
    · rw [canonJ, if_neg (by decide), canonsJ]; exact ⟨hc, rfl⟩
    · rw [canonJ, if_neg (by decide), canonsJ]; exact ⟨hc, rfl⟩
    · rw [canonJ, if_neg (by decide), canonsJ]; exact ⟨hc, rfl⟩
    · rw [canonJ, if_neg (by decide), canons_map]
      have hd : deeper 4 deep = deep + 1 := by unfold deeper; rw [if_pos (.inl rfl)]
      rw [hd] at h1 h4
      have hih : ∀ v ∈ is, Can (deep + 1) (canonJ v) ∧ textJ (canonJ v) = textJ v := fun v hv => ih v hv _ ⟨h4 v hv, wfs_all.1 w3 v hv⟩
      refine ⟨can_list (by omega) fun v hv => ?_, ?_⟩
      · obtain ⟨u, hu, rfl⟩ := List.mem_map.1 hv
        exact (hih u hu).1
      · rw [textJ, textJ, if_neg (by decide), if_neg (by decide), if_neg (by decide), if_neg (by decide), if_pos rfl, if_neg (by decide), if_neg (by decide), if_neg (by decide), if_neg (by decide), if_pos rfl]
        rw [texts_map, texts_map, List.map_map]
        have : is.map (textJ ∘ canonJ) = is.map textJ := List.map_congr_left fun v hv => (hih v hv).2
        rw [this]
    · rw [canonJ, if_pos rfl, canons_map, zip_map_snd, sort_map]
      have hd : deeper 5 deep = deep + 1 := by unfold deeper; rw [if_pos (.inr rfl)]
      rw [hd] at h1 h4
      have hih : ∀ v ∈ is, Can (deep + 1) (canonJ v) ∧ textJ (canonJ v) = textJ v := fun v hv => ih v hv _ ⟨h4 v hv, wfs_all.1 w3 v hv⟩
      have hnz : ((ns.zip is).map (·.1)).Nodup := by rw [zip_fst hl]; exact h3
      have hris := sort_rising hnz
      have hz : ∀ q ∈ sortP (ns.zip is), q.1 ∈ ns ∧ q.2 ∈ is := fun q hq => ⟨(List.of_mem_zip (sort_mem.1 hq)).1, (List.of_mem_zip (sort_mem.1 hq)).2⟩
      have hnd : ((sortP (ns.zip is)).map (·.1)).Nodup := (((sort_perm (ns.zip is)).map _).nodup_iff).2 hnz
      have e1 : sortP (ns.zip (is.map textJ)) = (sortP (ns.zip is)).map fun q => (q.1, textJ q.2) := by rw [zip_map_snd, sort_map]
      generalize sortP (ns.zip is) = S at *
      rw [List.map_map, List.map_map]
      refine ⟨can_object (by omega) (by simp) hnd (fun s hs => ?_) (fun v hv => ?_), ?_⟩
      · obtain ⟨q, hq, rfl⟩ := List.mem_map.1 hs
        exact hws _ (hz q hq).1
      · obtain ⟨q, hq, rfl⟩ := List.mem_map.1 hv
        exact (hih _ (hz q hq).2).1
      · rw [textJ, textJ, if_neg (by decide), if_neg (by decide), if_neg (by decide), if_neg (by decide), if_neg (by decide), if_neg (by decide), if_neg (by decide), if_neg (by decide), if_neg (by decide), if_neg (by decide)]
        rw [texts_map, texts_map, e1, List.map_map]
        have e2 : List.map (textJ ∘ (fun x : B × J => x.2) ∘ fun q : B × J => (q.1, canonJ q.2)) S = S.map fun q => textJ q.2 :=
          List.map_congr_left fun q hq => (hih _ (hz q hq).2).2
        have e3 : (S.map ((fun x : B × J => x.1) ∘ fun q : B × J => (q.1, canonJ q.2))).zip (S.map fun q => textJ q.2) = S.map fun q => (q.1, textJ q.2) := by
          have := zip_pair (S.map fun q => (q.1, textJ q.2))
          rw [List.map_map, List.map_map] at this
          exact this
        rw [e2, e3, sort_map, sort_of_rising hris hnd]
/-- Members in another order. -/
theorem order_same {deep : Nat} {n : Int} {t : B} {ns ns' : List B} {is is' : List J} (h : Can deep (.mk 5 n t ns is)) (hl : ns'.length = is'.length) (hp : (ns.zip is).Perm (ns'.zip is')) :
    Can deep (.mk 5 n t ns' is') ∧ textJ (.mk 5 n t ns' is') = textJ (.mk 5 n t ns is) := by
  obtain ⟨h1, h2, h3, h4⟩ := check_parts h.1
  have hw := h.2
  rw [wfJ] at hw
  simp only [Bool.and_eq_true, decide_eq_true_eq] at hw
  have hd : deeper 5 deep = deep + 1 := by unfold deeper; rw [if_pos (.inr rfl)]
  rw [hd] at h1 h4
  rcases blank_kinds h2 with ⟨h, _⟩ | ⟨h, _⟩ | ⟨h, _⟩ | ⟨h, _⟩ | ⟨h, _⟩ | ⟨-, rfl, rfl, hl0, hwf, hws⟩
  · cases h
  · cases h
  · cases h
  · cases h
  · cases h
  have hnz : ((ns.zip is).map (·.1)).Nodup := by rw [zip_fst hl0]; exact h3
  have p1 := hp.map (·.1)
  rw [zip_fst hl0, zip_fst hl] at p1
  have p2 := hp.map (·.2)
  rw [zip_snd hl0, zip_snd hl] at p2
  refine ⟨can_object (by omega) hl (p1.nodup_iff.1 h3) (fun s hs => hws s (p1.mem_iff.2 hs)) (fun v hv => ⟨h4 v (p2.mem_iff.2 hv), wfs_all.1 hw.2 v (p2.mem_iff.2 hv)⟩), ?_⟩
  rw [textJ, textJ, if_neg (by decide), if_neg (by decide), if_neg (by decide), if_neg (by decide), if_neg (by decide), if_neg (by decide), if_neg (by decide), if_neg (by decide), if_neg (by decide), if_neg (by decide)]
  rw [texts_map, texts_map, zip_map_snd, sort_map, zip_map_snd, sort_map, sort_of_perm hnz hp]
/-- P4.5, P4.6, P4.8 as plain laws. -/
theorem print_zero {v : J} (h : checkJ 0 v = 0) : printJ v = if 65536 < (textJ v).length then ([], 4) else (textJ v, 0) := by
  unfold printJ; rw [if_neg (by rw [h]; decide)]
theorem print_ok {v : J} {s : B} (h : printJ v = (s, 0)) : checkJ 0 v = 0 ∧ s = textJ v ∧ (textJ v).length ≤ 65536 := by
  unfold printJ at h
  split at h
  · rename_i hc; simp only [Prod.mk.injEq] at h; exact absurd h.2 hc
  · rename_i hc
    split at h
    · simp at h
    · rename_i hl
      simp only [Prod.mk.injEq] at h
      exact ⟨by simpa using hc, h.1.symm, by omega⟩
theorem print_fail {v : J} {s : B} {e : Nat} (h : printJ v = (s, e)) (he : e ≠ 0) : s = [] := by
  unfold printJ at h
  split at h
  · simp only [Prod.mk.injEq] at h; exact h.1.symm
  · split at h
    · simp only [Prod.mk.injEq] at h; exact h.1.symm
    · simp only [Prod.mk.injEq] at h; exact absurd h.2.symm he
theorem back_law {v : J} {s : B} (hw : wfJ v = true) (h : printJ v = (s, 0)) : parseJ s = (canonJ v, 0, 0) ∧ printJ (canonJ v) = (s, 0) ∧ sameJ v (canonJ v) = true ∧ sameJ (canonJ v) v = true := by
  obtain ⟨h1, rfl, h3⟩ := print_ok h
  obtain ⟨⟨c1, c2⟩, c3⟩ := canon_same v 0 ⟨h1, hw⟩
  refine ⟨parse_print h1 hw h3, ?_, ?_, ?_⟩
  · rw [print_zero c1, c3, if_neg (by omega)]
  · unfold sameJ; rw [h1, c1, c3]; simp
  · unfold sameJ; rw [h1, c1, c3]; simp
end Go.Proofs.YthkpbgpgcpkiiaaGreatDoor
