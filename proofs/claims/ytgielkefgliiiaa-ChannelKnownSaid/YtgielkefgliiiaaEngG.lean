/-
  Loads, stores, new blocks.
-/
import Derived.Test.YtgielkefgliiiaaEngF
namespace Go.Eng

section
variable (P : Program) (F : Facts)

def idxE (e : E) (s f : Nat) : E := addI (mulI e (.li s)) (.li f)

def cellD (a e : E) (s f : Nat) : Kd → Option DV
  | .int k => some (.int k (wrapI F k (rwE F (.bi .cell a (idxE e s f)))))
  | .bool => some (.bool (boolE F (.bi .cell a (idxE e s f))))
  | .str => some (.str (rwE F (.bi .cell a (idxE e s f))))
  | .any => none

/-- What stands behind a row's beginning. -/
def behindQ (q : E) (o : Off) : Option (List (E × Nat)) :=
  match q with
  | .li 0 => some o.terms
  | q => match o.terms with
    | (x, 1) :: r => if x.same q then some r else none
    | _ => none

/-- Which record of a row of records, and which cell of it. -/
def recOf (q : E) (o : Off) (s : Nat) : Option (E × Nat) :=
  match behindQ q o with
  | some [] => if s = 0 then none else some (.li (o.base / s : Nat), o.base % s)
  | some [(e, s')] => if s' = s ∧ o.base < s then some (e, o.base) else none
  | _ => none

def loadArr (t : TypeId) (q a n : E) (sh : List Kd) (o : Off) : Option DV :=
  match recOf q o sh.length with
  | some (e, f) =>
    if (E.bi .lt e (.li 0)).dec F = some false ∧ (E.bi .lt e n).dec F = some true then
      match aggT P t with
      | some false => match sh[f]? with
        | some k => cellD F a e sh.length f k
        | none => none
      | some true => match P.info? t with
        | some i => if f + i.size ≤ sh.length then ((List.range i.size).mapM fun j => (sh[f + j]?).bind (cellD F a e sh.length (f + j))).map .agg else none
        | none => none
      | none => none
    else none
  | none => none

def loadD (h : T Blk) (t : TypeId) (d : DV) : Option DV :=
  match d with
  | .ptr id o =>
    match h.get id with
    | some (.cells l _ _) =>
      match aggT P t with
      | some true => match o.terms, P.info? t with
        | [], some i => if o.base + i.size ≤ l.length then some (.agg ((l.drop o.base).take i.size)) else none
        | _, _ => none
      | some false => match o.terms with
        | [] => l[o.base]?
        | [(e, s)] => match e.rng F with
          | (some lo, some hi) => if 0 ≤ lo ∧ lo ≤ hi then selD F l e o.base s (hi - lo).toNat lo.toNat else none
          | _ => none
        | _ => none
      | none => none
    | some (.arr q a n sh _ _) => loadArr P F t q a n sh o
    | _ => none
  | _ => none

def DV.one : DV → Bool
  | .agg _ | .tup _ => false
  | _ => true

def setL (l : List DV) (b : Nat) (cs : List DV) : List DV := l.take b ++ cs ++ l.drop (b + cs.length)

def storeD (h : T Blk) (t : TypeId) (d x : DV) : Option (T Blk) :=
  match d with
  | .ptr id o =>
    match h.get id with
    | some (.cells l t0 md) =>
      match P.info? t with
      | some i => if x.cells.length = i.size ∧ x.cells.all DV.one ∧ md.rw' = true then
          match o.terms with
          | [] => if o.base + x.cells.length ≤ l.length then some (h.set id (.cells (setL l o.base x.cells) t0 md)) else none
          | [(e, s)] => match x.cells, e.rng F with
            | [c], (some lo, some hi) => if 0 ≤ lo ∧ lo ≤ hi ∧ 0 < s then (updD F e o.base s c (hi - lo).toNat lo.toNat l).map fun l' => h.set id (.cells l' t0 md) else none
            | _, _ => none
          | _ => none
        else none
      | none => none
    | _ => none
  | _ => none

variable {P} {F}

theorem aggT_true {t : TypeId} (h : aggT P t = some true) (w : World) : (isAgg t).run P w = .ok true w := by
  unfold aggT at h
  split at h
  · rename_i hu; simp [isAgg, run_underlying hu]
  · rename_i hu; simp [isAgg, run_underlying hu]
  · cases h
  · cases h

theorem aggT_false {t : TypeId} (h : aggT P t = some false) (w : World) : (isAgg t).run P w = .ok false w := by
  unfold aggT at h
  cases hu : P.underlying t with
  | none => simp [hu] at h
  | some d => cases d <;> simp [hu] at h <;> simp [isAgg, run_underlying hu]

theorem cell_at {w : World} {b off : Nat} {c : Array Value} {t : TypeId} {fr : Nat × Nat} (h : w.heap[b]? = some (.cells c t fr)) : w.cell? ⟨b, off, none⟩ = c[off]? := by
  simp [World.cell?, h]

theorem add_none (b off j : Nat) : (⟨b, off, none⟩ : Addr).add j = ⟨b, off + j, none⟩ := by
  unfold Addr.add; split <;> simp_all

theorem run_load_cell {w : World} {a : Addr} {v : Value} (h : w.cell? a = some v) : (load a).run P w = .ok v w := by
  simp [load, Sem.run, h]

theorem loadVar_one {t : TypeId} (ht : aggT P t = some false) {w : World} {b off : Nat} {c : Array Value} {t0 : TypeId} {fr : Nat × Nat} (hb : w.heap[b]? = some (.cells c t0 fr)) {v : Value} (hv : c[off]? = some v) :
    (loadVar t ⟨b, off, none⟩).run P w = .ok v w := by
  have h1 := run_load_cell (P := P) (w := w) (a := ⟨b, off, none⟩) (v := v) (by rw [cell_at hb, hv])
  simp only [loadVar, Sem.run_bind, aggT_false ht, Result.andThen_ok, Bool.false_eq_true, if_false, h1]

theorem loadVar_many {t : TypeId} (ht : aggT P t = some true) {i : TypeInfo} (hi : P.info? t = some i) {w : World} {b off : Nat} {c : Array Value} {t0 : TypeId} {fr : Nat × Nat} (hb : w.heap[b]? = some (.cells c t0 fr))
    {vs : List Value} (hl : vs.length = i.size) (hv : ∀ j v, vs[j]? = some v → c[off + j]? = some v) :
    (loadVar t ⟨b, off, none⟩).run P w = .ok (.agg vs.toArray) w := by
  have h1 := run_loadCells_list (P := P) (w := w) ⟨b, off, none⟩ vs (fun j v h => by rw [add_none, cell_at hb]; exact hv j v h)
  rw [hl] at h1
  have hs : (sizeOf t).run P w = .ok i.size w := by simp [sizeOf, typeInfo, hi]
  simp only [loadVar, Sem.run_bind, aggT_true ht, Result.andThen_ok, if_true, hs, h1]
  rfl

theorem idxE_int (ρ : Env) (e : E) (s f : Nat) : ((idxE e s f).ev ρ).int = (e.ev ρ).int * s + f := by
  unfold idxE
  rw [addI_int, mulI_int]; rfl

theorem cellD_R {ρ : Env} (hF : F.ok ρ) {m : Emb} {a e : E} {s f : Nat} {k : Kd} {d : DV} (h : cellD F a e s f k = some d) (h0 : 0 ≤ (e.ev ρ).int) {v : Value}
    (hv : (a.ev ρ).arr[(e.ev ρ).int.toNat * s + f]? = some v) (hk : k.ok v) : d.R m ρ v := by
  have hi : ((idxE e s f).ev ρ).int.toNat = (e.ev ρ).int.toNat * s + f := by
    rw [idxE_int]
    have : ((e.ev ρ).int * s + f : Int) = (((e.ev ρ).int.toNat * s + f : Nat) : Int) := by
      rw [Int.natCast_add, Int.natCast_mul, Int.toNat_of_nonneg h0]
    rw [this]; rfl
  have hc : ((E.bi .cell a (idxE e s f)).ev ρ) = Sc.ofValue v := by
    simp only [E.ev, B2.ev, hi, List.getD_eq_getElem?_getD, hv]; rfl
  cases k with
  | int k =>
    simp only [cellD] at h; cases h
    obtain ⟨n, rfl, hn1, hn2⟩ := hk
    simp only [DV.R]; rw [wrapI_int hF, rwE_ev hF, hc]
    show Value.int k n = Value.int k (k.wrap n)
    rw [wrap_id hn1 hn2]
  | bool =>
    simp only [cellD] at h; cases h
    obtain ⟨n, rfl⟩ := hk
    simp only [DV.R]; rw [boolE_bool hF, hc]; rfl
  | str =>
    simp only [cellD] at h; cases h
    obtain ⟨n, rfl⟩ := hk
    simp only [DV.R]; rw [rwE_ev hF, hc]; rfl
  | any => cases h

theorem behindQ_den {ρ : Env} {q : E} {o : Off} {r : List (E × Nat)} (h : behindQ q o = some r) : sumT ρ o.terms = (q.ev ρ).int.toNat + sumT ρ r := by
  unfold behindQ at h
  split at h
  · cases h; simp [E.ev]
  · split at h
    · rename_i x r' ht
      split at h
      · rename_i hs
        cases h
        rw [ht, E.same_eq hs]
        simp [sumT]
      · cases h
    · cases h

theorem recOf_den {ρ : Env} {q : E} {o : Off} {s : Nat} {e : E} {f : Nat} (h : recOf q o s = some (e, f)) : o.den ρ = (q.ev ρ).int.toNat + ((e.ev ρ).int.toNat * s + f) ∧ f < s := by
  unfold recOf at h
  split at h
  · rename_i hq
    have ht := behindQ_den (ρ := ρ) hq
    split at h
    · cases h
    · rename_i hs
      cases h
      simp only [Off.den, ht, sumT, E.ev, Sc.int_I, Int.toNat_natCast]
      have := Nat.div_add_mod o.base s
      rw [Nat.mul_comm] at this
      exact ⟨by omega, Nat.mod_lt _ (by omega)⟩
  · rename_i e' s' hq
    have ht := behindQ_den (ρ := ρ) hq
    split at h
    · rename_i hs
      cases h
      obtain ⟨rfl, hlt⟩ := hs
      simp only [Off.den, ht, sumT]
      exact ⟨by omega, hlt⟩
    · cases h
  · cases h

theorem list_mapM_some {α β : Type} {f : α → Option β} : ∀ {l : List α} {r : List β}, l.mapM f = some r → r.length = l.length ∧ ∀ (i : Nat) (b : β), r[i]? = some b → ∃ a, l[i]? = some a ∧ f a = some b
  | [], r, h => by simp at h; subst h; simp
  | a :: l, r, h => by
    simp only [List.mapM_cons, Option.bind_eq_bind, Option.pure_def, Option.bind_eq_some_iff] at h
    obtain ⟨d, hd, rs, hr, he⟩ := h
    simp at he; subst he
    obtain ⟨h1, h2⟩ := list_mapM_some hr
    refine ⟨by simp [h1], fun i b hb => ?_⟩
    cases i with
    | zero => simp at hb; subst hb; exact ⟨a, rfl, hd⟩
    | succ i => simpa using h2 i b (by simpa using hb)

theorem range_get {n j k : Nat} (h : (List.range n)[j]? = some k) : j < n ∧ j = k := by
  have h1 := (List.getElem?_eq_some_iff.1 h).1
  rw [List.length_range] at h1
  rw [List.getElem?_range h1] at h
  exact ⟨h1, by simpa using h⟩

theorem loadD_sound {ρ : Env} (hF : F.ok ρ) {m : Emb} {h : T Blk} {w : World} (hH : HeapR m ρ h w) {t : TypeId} {p d : DV} (hd : loadD P F h t p = some d) {vp : Value} (hp : p.R m ρ vp) :
    ∃ v, (Instr.loadAt t vp).run P w = .ok v w ∧ d.R m ρ v := by
  unfold loadD at hd
  split at hd
  · rename_i id o
    simp only [DV.R] at hp
    obtain ⟨b, hb, rfl⟩ := hp
    have red : ∀ {v}, (loadVar t ⟨b, o.den ρ, none⟩).run P w = .ok v w → (Instr.loadAt t (.pointer (some ⟨b, o.den ρ, none⟩))).run P w = .ok v w := fun h => by
      simp only [Instr.loadAt, Instr.sureAddr, Sem.run_bind, Sem.run_pure, Result.andThen_ok, h]
    split at hd
    · rename_i l t0 md hg
      obtain ⟨b', ob, hb', ho, c, fr, ⟨t', rfl⟩, hle, hc, hmd⟩ := hH.blk id _ hg rfl
      rw [hb] at hb'; cases hb'
      split at hd
      · rename_i ht
        split at hd
        · rename_i i hterms hi
          split at hd
          · rename_i hlen
            cases hd
            have hden : o.den ρ = o.base := by simp [Off.den, hterms, sumT]
            have hget : ∀ j, j < i.size → ∃ v, c[o.base + j]? = some v := fun j hj =>
              ⟨c[o.base + j]'(by omega), by simp⟩
            refine ⟨.agg ((List.range i.size).map fun j => c.getD (o.base + j) undef).toArray, red ?_, ?_⟩
            · rw [hden]
              refine loadVar_many ht hi ho (by simp) (fun j v hv => ?_)
              simp only [List.getElem?_map, Option.map_eq_some_iff] at hv
              obtain ⟨j', hj', rfl⟩ := hv
              obtain ⟨hlt, rfl⟩ := range_get hj'
              obtain ⟨v, hv⟩ := hget j hlt
              simp [Array.getD_eq_getD_getElem?, hv]
            · simp only [DV.R]
              refine ⟨_, rfl, DV.RL.of_get (by simp; omega) (fun j d' hd' => ?_)⟩
              rw [List.getElem?_take] at hd'
              split at hd'
              · rename_i hj
                rw [List.getElem?_drop] at hd'
                obtain ⟨v, hv, hr⟩ := hc _ _ hd'
                refine ⟨v, ?_, hr⟩
                simp [hj, Array.getD_eq_getD_getElem?, hv]
              · cases hd'
          · cases hd
        · cases hd
      · rename_i ht
        split at hd
        · rename_i hterms
          have hden : o.den ρ = o.base := by simp [Off.den, hterms, sumT]
          obtain ⟨v, hv, hr⟩ := hc _ _ hd
          exact ⟨v, red (loadVar_one ht ho (by rw [hden]; exact hv)), hr⟩
        · rename_i e s hterms
          have hden : o.den ρ = o.base + (e.ev ρ).int.toNat * s := by simp [Off.den, hterms, sumT]
          split at hd
          · rename_i lo hi hr
            split at hd
            · rename_i hlo
              have hrng := E.rng_has hF e
              rw [hr] at hrng
              have h1 := hrng.1 lo rfl
              have h2 := hrng.2 hi rfl
              obtain ⟨v, hv, hr'⟩ := selD_R hF hc e o.base s _ _ d hd (by omega) (by omega)
              exact ⟨v, red (loadVar_one ht ho (by rw [hden]; exact hv)), hr'⟩
            · cases hd
          · cases hd
        · cases hd
      · cases hd
    · rename_i q a n sh t0 md hg
      obtain ⟨b', ob, hb', ho, c, fr, ⟨t', rfl⟩, hlen, hle, hc, hk, hmd⟩ := hH.blk id _ hg rfl
      rw [hb] at hb'; cases hb'
      unfold loadArr at hd
      split at hd
      · rename_i e f hrec
        obtain ⟨hden, hf⟩ := recOf_den (ρ := ρ) hrec
        split at hd
        · rename_i hcond
          have h0 := nonneg_of hF hcond.1
          have h1 : (e.ev ρ).int < (n.ev ρ).int := of_decide_eq_true (E.dec_sound hF hcond.2)
          have hbound : ∀ g, g < sh.length → (e.ev ρ).int.toNat * sh.length + g < (a.ev ρ).arr.length := fun g hg' => by
            rw [hlen]
            have : (e.ev ρ).int.toNat + 1 ≤ (n.ev ρ).int.toNat := by omega
            calc (e.ev ρ).int.toNat * sh.length + g < (e.ev ρ).int.toNat * sh.length + sh.length := by omega
              _ = ((e.ev ρ).int.toNat + 1) * sh.length := by rw [Nat.add_mul]; omega
              _ ≤ _ := Nat.mul_le_mul_right _ this
          have hcell : ∀ g k, g < sh.length → sh[g]? = some k → ∀ d', cellD F a e sh.length g k = some d' → ∃ v, c[(q.ev ρ).int.toNat + ((e.ev ρ).int.toNat * sh.length + g)]? = some v ∧ d'.R m ρ v := fun g k hg' hsh d' hd' => by
            have hlt := hbound g hg'
            have hget : (a.ev ρ).arr[(e.ev ρ).int.toNat * sh.length + g]? = some ((a.ev ρ).arr[(e.ev ρ).int.toNat * sh.length + g]'hlt) := by simp [hlt]
            refine ⟨_, hc _ _ hget, cellD_R hF hd' h0 hget ?_⟩
            have := hk _ _ hget
            have hm : ((e.ev ρ).int.toNat * sh.length + g) % sh.length = g := by
              rw [Nat.add_comm, Nat.add_mul_mod_self_right, Nat.mod_eq_of_lt hg']
            simp only [hm, List.getD_eq_getElem?_getD, hsh] at this
            exact this
          split at hd
          · rename_i ht
            split at hd
            · rename_i k hsh
              obtain ⟨v, hv, hr⟩ := hcell f k hf hsh d hd
              exact ⟨v, red (loadVar_one ht ho (by rw [hden]; exact hv)), hr⟩
            · cases hd
          · rename_i ht
            split at hd
            · rename_i i hi
              split at hd
              · rename_i hfit
                simp only [Option.map_eq_some_iff] at hd
                obtain ⟨ds, hds, rfl⟩ := hd
                obtain ⟨hl1, hl2⟩ := list_mapM_some hds
                simp at hl1
                have hget : ∀ j, j < i.size → ∃ v, c[o.den ρ + j]? = some v := fun j hj => by
                  have := hbound (f + j) (by omega)
                  exact ⟨c[o.den ρ + j]'(by omega), by simp⟩
                refine ⟨.agg ((List.range i.size).map fun j => c.getD (o.den ρ + j) undef).toArray, red ?_, ?_⟩
                · refine loadVar_many ht hi ho (by simp) (fun j v hv => ?_)
                  simp only [List.getElem?_map, Option.map_eq_some_iff] at hv
                  obtain ⟨j', hj', rfl⟩ := hv
                  obtain ⟨hlt, rfl⟩ := range_get hj'
                  obtain ⟨v, hv⟩ := hget j hlt
                  simp [Array.getD_eq_getD_getElem?, hv]
                · simp only [DV.R]
                  refine ⟨_, rfl, DV.RL.of_get (by simp; omega) (fun j d' hd' => ?_)⟩
                  obtain ⟨j', hj', hbnd⟩ := hl2 j d' hd'
                  obtain ⟨hlt, rfl⟩ := range_get hj'
                  simp only [Option.bind_eq_some_iff] at hbnd
                  obtain ⟨k, hsh, hcd⟩ := hbnd
                  obtain ⟨v, hv, hr⟩ := hcell (f + j) k (by omega) hsh d' hcd
                  refine ⟨v, ?_, hr⟩
                  rw [show (q.ev ρ).int.toNat + ((e.ev ρ).int.toNat * sh.length + (f + j)) = o.den ρ + j by omega] at hv
                  simp [hlt, Array.getD_eq_getD_getElem?, hv]
              · cases hd
            · cases hd
          · cases hd
        · cases hd
      · cases hd
    · cases hd
  · cases hd

end

end Go.Eng
