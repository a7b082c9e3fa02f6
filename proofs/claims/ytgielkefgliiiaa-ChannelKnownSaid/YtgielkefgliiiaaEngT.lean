/-
  A region that draws its order: every order.
-/
import Derived.Test.YtgielkefgliiiaaEngS
namespace Go.Eng

section
variable {P : Program} {F : Facts} {call : CallD} {ops : Array Oper}

def drOf (es : List Ent) (z : St) : DR :=
  ⟨stAt es z, fun k => (es[k]?.map (·.r)).getD z, fun k => (es[k]?.map (·.p)).getD z, fun k => (es[k]?.map (·.ids)).getD [], fun k => (es[k]?.map (·.val)).getD true⟩

theorem mem_zipIdx' {α : Type} {l : List α} {i : Nat} {a : α} (ha : l[i]? = some a) : (a, i) ∈ l.zipIdx := by
  rw [List.mem_iff_getElem?]
  exact ⟨i, by simp [ha]⟩

theorem pairsOk_spec {bf : List Nat} {l : List (Oper × Ent)} (h : pairsOk ops bf l = true) {i j : Nat} {x y : Oper × Ent} (hij : i < j) (hj : l[j]? = some x) (hi : l[i]? = some y) :
    ahead bf i j = true ∨ confOk ops y.1 x.1 y.2 x.2 = true := by
  have h1 := (List.all_eq_true.1 h) (x, j) (mem_zipIdx' hj)
  have h2 : (l.take j)[i]? = some y := by rw [List.getElem?_take, if_pos hij]; exact hi
  have h3 := (List.all_eq_true.1 h1) (y, i) (mem_zipIdx' h2)
  exact (Bool.or_eq_true _ _).mp h3

theorem contains_iff {l : List Nat} {i : Nat} : l.contains i = true ↔ i ∈ l := by simp

theorem drOf_ok {s z : St} {es : List Ent} (hrun : runD P F call ops ops.toList s = some (es, z)) (hpairs : pairsOk ops (befFrom [] ops.toList) (ops.toList.zip es) = true) : (drOf es z).Ok P F call ops := by
  obtain ⟨hlen, h0, hn, hall⟩ := runD_spec hrun
  have key : ∀ i o, ops[i]? = some o → ∃ e, es[i]? = some e ∧ e.s = stAt es z i ∧ e.r = entR ops o (stAt es z i) ∧ e.ids = footD (stAt es z i).heap (stAt es z i).tmps o.op ∧ e.val = isVal P F ops o (entR ops o (stAt es z i)) ∧
      entPre (stAt es z i) (o.looksAt ops) e.ids = true ∧ stepX P F call ops o e.r = some e.p ∧ entPost o (stAt es z i) e.p (o.looksAt ops) e.ids e.val = true ∧ stAt es z (i + 1) = nextSt o e := by
    intro i o ho
    obtain ⟨e, he, hd, hnx⟩ := hall i o (by simpa using ho)
    obtain ⟨h1, h2, h3, h4, h5, h6, h7⟩ := entD_spec hd
    exact ⟨e, he, h1, h2, h3, by rw [h4], h5, h6, h7, hnx⟩
  have unf : ∀ {i o e}, ops[i]? = some o → es[i]? = some e → (drOf es z).S i = stAt es z i ∧ (drOf es z).R i = e.r ∧ (drOf es z).P i = e.p ∧ (drOf es z).ids i = e.ids ∧ (drOf es z).val i = e.val := by
    intro i o e _ he; simp [drOf, he]
  have knownIn : ∀ {i o e}, ops[i]? = some o → es[i]? = some e → e.s = stAt es z i → e.r = entR ops o (stAt es z i) → e.ids = footD (stAt es z i).heap (stAt es z i).tmps o.op → entPre (stAt es z i) (o.looksAt ops) e.ids = true → stAt es z (i + 1) = nextSt o e →
      ∀ id, id ∈ range' (stAt es z i).next e.p.next ++ namedT (stAt es z i).tmps (o.looksAt ops) ++ namedH (stAt es z i).heap e.ids → (drOf es z).known i id := by
    intro i o e ho he hs hr hids hpre hnx id hid
    obtain ⟨u1, u2, u3, u4, u5⟩ := unf ho he
    simp only [entPre, Bool.and_eq_true] at hpre
    simp only [List.mem_append] at hid
    rcases hid with (hid | hid) | hid
    · left
      rw [mem_range'] at hid
      refine ⟨by rw [u1]; exact hid.1, ?_⟩
      show id < (stAt es z (i + 1)).next
      rw [hnx]; exact hid.2
    · right; left
      obtain ⟨t, d, ht, hd, hm⟩ := mem_namedT hid
      refine ⟨t, d, ?_, hm⟩
      rw [u2, hr]
      show (restT _ _).get t = some d
      rw [restT_get, if_pos ht]; exact hd
    · right; right
      obtain ⟨x, B, hx, hB, hm⟩ := mem_namedH hid
      refine ⟨x, B, ?_, ?_, hm⟩
      · rw [u2, hr]
        show (restH _ _).get x = some B
        rw [restH_get, if_pos (hids ▸ hx)]; exact hB
      · have := (List.all_eq_true.1 hpre.2.2) x hx
        simp [liveIn, hB] at this; exact this
  have pair : ∀ i j oi oj ei ej, i < j → ops[i]? = some oi → ops[j]? = some oj → es[i]? = some ei → es[j]? = some ej → ahead (befFrom [] ops.toList) i j = true ∨ confOk ops oi oj ei ej = true := by
    intro i j oi oj ei ej hij hi hj hei hej
    have hzj : (ops.toList.zip es)[j]? = some (oj, ej) := by
      rw [List.getElem?_zip_eq_some]; exact ⟨by simpa using hj, hej⟩
    have hzi : (ops.toList.zip es)[i]? = some (oi, ei) := by
      rw [List.getElem?_zip_eq_some]; exact ⟨by simpa using hi, hei⟩
    exact pairsOk_spec hpairs hij hzj hzi
  have footIn : ∀ {i o e}, ops[i]? = some o → es[i]? = some e → stAt es z (i + 1) = nextSt o e → e.s = stAt es z i → ∀ id, (drOf es z).foot i id → id ∈ e.foot := by
    intro i o e ho he hnx hs id hf
    obtain ⟨u1, u2, u3, u4, u5⟩ := unf ho he
    simp only [Ent.foot, List.mem_append]
    rcases hf with hf | hf
    · left; rwa [u4] at hf
    · right
      rw [mem_range', hs]
      refine ⟨by have := hf.1; rwa [u1] at this, ?_⟩
      have h2 : id < (stAt es z (i + 1)).next := hf.2
      rw [hnx] at h2; exact h2
  constructor
  case rt =>
    intro i o ho t
    obtain ⟨e, he, hs, hr, hids, hval, hpre, hst, hpost, hnx⟩ := key i o ho
    obtain ⟨u1, u2, u3, u4, u5⟩ := unf ho he
    rw [u1, u2, hr]
    show (restT _ _).get t = _
    rw [restT_get]
  case rh =>
    intro i o ho id
    obtain ⟨e, he, hs, hr, hids, hval, hpre, hst, hpost, hnx⟩ := key i o ho
    obtain ⟨u1, u2, u3, u4, u5⟩ := unf ho he
    rw [u1, u2, u4, hr, hids]
    show (restH _ _).get id = _
    rw [restH_get]
  case rn =>
    intro i o ho
    obtain ⟨e, he, hs, hr, hids, hval, hpre, hst, hpost, hnx⟩ := key i o ho
    obtain ⟨u1, u2, u3, u4, u5⟩ := unf ho he
    refine ⟨by rw [u1, u2, hr]; rfl, by rw [u1, u2, hr]; rfl, ?_⟩
    show (stAt es z (i + 1)).sz = _
    rw [hnx, u1, ← hs]; rfl
  case live =>
    intro i o ho id hid
    obtain ⟨e, he, hs, hr, hids, hval, hpre, hst, hpost, hnx⟩ := key i o ho
    obtain ⟨u1, u2, u3, u4, u5⟩ := unf ho he
    rw [u4] at hid
    simp only [entPre, Bool.and_eq_true] at hpre
    have := (List.all_eq_true.1 hpre.2.2) id hid
    unfold liveIn at this
    rw [u1]
    split at this
    · rename_i B hB; exact ⟨B, hB, this⟩
    · cases this
  case scT =>
    intro i o ho t d hd id hid
    obtain ⟨e, he, hs, hr, hids, hval, hpre, hst, hpost, hnx⟩ := key i o ho
    obtain ⟨u1, u2, u3, u4, u5⟩ := unf ho he
    rw [u2, hr] at hd
    have hd' : (restT (stAt es z i).tmps (o.looksAt ops)).get t = some d := hd
    rw [restT_get] at hd'
    split at hd'
    · rename_i hm
      simp only [entPre, Bool.and_eq_true] at hpre
      have := (List.all_eq_true.1 hpre.1) t hm
      simp only [hd'] at this
      have := (List.all_eq_true.1 this) id hid
      rw [u1]; simpa using this
    · cases hd'
  case scB =>
    intro i o ho id B hB
    obtain ⟨e, he, hs, hr, hids, hval, hpre, hst, hpost, hnx⟩ := key i o ho
    obtain ⟨u1, u2, u3, u4, u5⟩ := unf ho he
    rw [u2, hr] at hB
    have hB' : (restH (stAt es z i).heap (footD (stAt es z i).heap (stAt es z i).tmps o.op)).get id = some B := hB
    rw [restH_get] at hB'
    split at hB'
    · rename_i hm
      simp only [entPre, Bool.and_eq_true] at hpre
      have := (List.all_eq_true.1 hpre.2.1) id (hids ▸ hm)
      simp only [hB', Bool.and_eq_true, decide_eq_true_eq] at this
      rw [u1]
      exact ⟨this.1, fun x hx => by simpa using (List.all_eq_true.1 this.2) x hx⟩
    · cases hB'
  case step =>
    intro i o ho
    obtain ⟨e, he, hs, hr, hids, hval, hpre, hst, hpost, hnx⟩ := key i o ho
    obtain ⟨u1, u2, u3, u4, u5⟩ := unf ho he
    rw [u2, u3]; exact hst
  case vals =>
    intro i o ho hv
    obtain ⟨e, he, hs, hr, hids, hval, hpre, hst, hpost, hnx⟩ := key i o ho
    obtain ⟨u1, u2, u3, u4, u5⟩ := unf ho he
    rw [u5] at hv
    simp only [entPost, Bool.and_eq_true, hv, Bool.not_true, Bool.false_or, decide_eq_true_eq] at hpost
    refine ⟨?_, ?_⟩
    · show (stAt es z (i + 1)).next = _
      rw [hnx, u1]; exact hpost.2.1
    · rw [u2, hr]
      rw [hval] at hv
      unfold isVal at hv
      split at hv
      · rename_i hw; exact .inl hw
      · rename_i hw; exact .inr ⟨hw, Option.isSome_iff_exists.1 hv⟩
      · cases hv
  case nx =>
    intro i o ho
    obtain ⟨e, he, hs, hr, hids, hval, hpre, hst, hpost, hnx⟩ := key i o ho
    obtain ⟨u1, u2, u3, u4, u5⟩ := unf ho he
    simp only [entPost, Bool.and_eq_true, decide_eq_true_eq] at hpost
    have h1 : (stAt es z (i + 1)).next = e.p.next := by rw [hnx]; rfl
    refine ⟨?_, ?_⟩
    · show _ ≤ (stAt es z (i + 1)).next
      rw [h1, u1]; exact hpost.1
    · show (stAt es z (i + 1)).next = _
      rw [h1, u3]
  case tm =>
    intro i o ho t
    obtain ⟨e, he, hs, hr, hids, hval, hpre, hst, hpost, hnx⟩ := key i o ho
    obtain ⟨u1, u2, u3, u4, u5⟩ := unf ho he
    show (stAt es z (i + 1)).tmps.get t = _
    rw [hnx, u1, u3, ← hs]
    simp only [nextSt]
    cases hdst : o.dst with
    | none => simp
    | some t' =>
      simp only [Option.some.injEq]
      by_cases ht : t = t'
      · subst ht
        rw [if_pos rfl]
        split
        · rename_i d hd; rw [T.get_set, if_pos rfl, hd]
        · rename_i hd; rw [T.get_del, if_pos rfl, hd]
      · rw [if_neg (fun h => ht h.symm)]
        split
        · rw [T.get_set, if_neg ht]
        · rw [T.get_del, if_neg ht]
  case hp =>
    intro i o ho id
    obtain ⟨e, he, hs, hr, hids, hval, hpre, hst, hpost, hnx⟩ := key i o ho
    obtain ⟨u1, u2, u3, u4, u5⟩ := unf ho he
    show (_ → (stAt es z (i + 1)).heap.get id = _) ∧ (_ → (stAt es z (i + 1)).heap.get id = _)
    have hfr : (drOf es z).fresh i id ↔ id ∈ range' e.s.next e.p.next := by
      rw [mem_range', hs]
      show (_ ≤ id ∧ id < (stAt es z (i + 1)).next) ↔ _
      rw [hnx, u1]; rfl
    rw [hnx, u1, u3, ← hs]
    simp only [nextSt]
    cases hv : e.val with
    | true =>
      refine ⟨fun ht => ?_, fun _ => rfl⟩
      have := ht.1; rw [u5, hv] at this; cases this
    | false =>
      simp only [Bool.false_eq_true, if_false]
      rw [copyH_get]
      have hiff : (drOf es z).touched i id ↔ id ∈ e.ids ++ range' e.s.next e.p.next := by
        rw [List.mem_append, ← hfr]
        constructor
        · intro h; rcases h.2 with h | h
          · left; rwa [u4] at h
          · exact .inr h
        · intro h; refine ⟨by rw [u5, hv], ?_⟩
          rcases h with h | h
          · left; rwa [u4]
          · exact .inr h
      refine ⟨fun ht => by rw [if_pos (hiff.1 ht)], fun ht => by rw [if_neg (fun h => ht (hiff.2 h))]⟩
  case outT =>
    intro i o ho t d hdst hd id hid
    obtain ⟨e, he, hs, hr, hids, hval, hpre, hst, hpost, hnx⟩ := key i o ho
    obtain ⟨u1, u2, u3, u4, u5⟩ := unf ho he
    rw [u3] at hd
    simp only [entPost, Bool.and_eq_true] at hpost
    have := hpost.2.2.1
    simp only [outTOk, hdst, hd] at this
    exact knownIn ho he hs hr hids hpre hnx id (contains_iff.1 ((List.all_eq_true.1 this) id hid))
  case outB =>
    intro i o ho id B ht hB x hx
    obtain ⟨e, he, hs, hr, hids, hval, hpre, hst, hpost, hnx⟩ := key i o ho
    obtain ⟨u1, u2, u3, u4, u5⟩ := unf ho he
    rw [u3] at hB
    simp only [entPost, Bool.and_eq_true] at hpost
    have hv := ht.1
    rw [u5] at hv
    have := hpost.2.2.2.1
    rw [hv] at this
    simp only [Bool.false_or, outBOk] at this
    have hm := footIn ho he hnx hs id ht.2
    simp only [Ent.foot] at hm
    rw [hs] at hm
    have := (List.all_eq_true.1 this) id hm
    simp only [hB] at this
    exact knownIn ho he hs hr hids hpre hnx x (contains_iff.1 ((List.all_eq_true.1 this) x hx))
  case newrw =>
    intro i o ho id B hf hB hl
    obtain ⟨e, he, hs, hr, hids, hval, hpre, hst, hpost, hnx⟩ := key i o ho
    obtain ⟨u1, u2, u3, u4, u5⟩ := unf ho he
    rw [u3] at hB
    simp only [entPost, Bool.and_eq_true] at hpost
    have := hpost.2.2.2.2
    simp only [freshOk] at this
    have hm : id ∈ range' (stAt es z i).next e.p.next := by
      rw [mem_range']
      refine ⟨by have := hf.1; rwa [u1] at this, ?_⟩
      have h2 : id < (stAt es z (i + 1)).next := hf.2
      rw [hnx] at h2; exact h2
    have := (List.all_eq_true.1 this) id hm
    simp only [hB, hl, Bool.not_true, Bool.false_or] at this
    exact this
  case confT =>
    intro i j oi oj hij hi hj hc
    obtain ⟨ei, hei, _⟩ := key i oi hi
    obtain ⟨ej, hej, _⟩ := key j oj hj
    refine (pair i j oi oj ei ej hij hi hj hei hej).resolve_right fun h => ?_
    simp only [confOk, Bool.not_eq_true', Bool.or_eq_false_iff] at h
    rcases hc with ⟨t, hd, ht⟩ | ⟨t, hd, ht⟩
    · have := h.1.1
      simp only [hd, Bool.or_eq_false_iff] at this
      rcases ht with ht | ht
      · have h2 := this.1; simp at h2; exact h2 ht
      · have h2 := this.2; rw [ht] at h2; simp at h2
    · have := h.1.2
      simp only [hd] at this
      simp at this; exact this ht
  case confB =>
    intro i j oi oj hij hi hj hv hc
    obtain ⟨ei, hei, hsi, hri, hidsi, hvali, hprei, hsti, hposti, hnxi⟩ := key i oi hi
    obtain ⟨ej, hej, hsj, hrj, hidsj, hvalj, hprej, hstj, hpostj, hnxj⟩ := key j oj hj
    obtain ⟨_, _, _, _, u5i⟩ := unf hi hei
    obtain ⟨_, _, _, _, u5j⟩ := unf hj hej
    refine (pair i j oi oj ei ej hij hi hj hei hej).resolve_right fun h => ?_
    simp only [confOk, Bool.not_eq_true', Bool.or_eq_false_iff] at h
    have h3 := h.2
    obtain ⟨id, hfi, hfj⟩ := hc
    have hmi := footIn hi hei hnxi hsi id hfi
    have hmj := footIn hj hej hnxj hsj id hfj
    have hvv : (!ei.val || !ej.val) = true := by
      rcases hv with hv | hv
      · rw [u5i] at hv; simp [hv]
      · rw [u5j] at hv; simp [hv]
    rw [hvv] at h3
    simp only [Bool.true_and] at h3
    have : (ei.foot.any ej.foot.contains) = true := List.any_eq_true.2 ⟨id, hmi, contains_iff.2 hmj⟩
    rw [this] at h3; cases h3

end

end Go.Eng
