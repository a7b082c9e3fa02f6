/-
  More operations that make one value and change no block: slices of slices and of arrays, strings of bytes, capacities.
-/
import Derived.Test.YtgielkefgliiiaaEngL
import Derived.Laws.BytesArg
namespace Go.Eng

section
variable (P : Program) (F : Facts)

def Cap.skip (c : Cap) (a : E) : Option Cap := match c with
  | .ex c => some (.ex (subI c a))
  | .own k => if (E.bi .lt k (.li 0)).dec F = some false then some (.own (addI k a)) else none

theorem litI?_eq {e : E} {n : Int} (h : litI? e = some n) : e = .li n := by cases e <;> simp_all [litI?]

/-- A number of which the range is one number. -/
def snapE (e : E) : E := match litI? e with
  | some _ => e
  | none => match e.rng F with
    | (some x, some y) => if x = y then .li x else e
    | _ => e

/-- A slice of a slice whose elements take so many cells. -/
def sliceD (size : Nat) (d : DV) (lo hi : Option DV) : Option DV :=
  match d with
  | .slc id o len cap => match bndsD F lo hi len (match cap with | .ex c => c | .own _ => len) with
    | some (a, b) =>
      if litI? a = some 0 then some (.slc id o (snapE F b) cap)
      else match (E.bi .lt a b).dec F with
        | some true => (Cap.skip F cap a).map fun c => .slc id (o.addE a size) (snapE F (subI b a)) c
        | some false => some .mt
        | none => none
    | none => none
  | .nils => (bndsD F lo hi (.li 0) (.li 0)).map fun _ => .nils
  | .mt => (bndsD F lo hi (.li 0) (.li 0)).map fun _ => .mt
  | _ => none

def optD (t : T DV) : Option Operand → Option (Option DV)
  | none => some none
  | some a => (opd t a).map some

/-- The string of cells that are bytes. -/
def litsOf : List DV → Option (List Int)
  | [] => some []
  | .int .u8 (.li n) :: r => (litsOf r).map (n :: ·)
  | _ => none

def bytesE : List DV → Option E
  | [] => some (.ls ByteArray.empty)
  | .int .u8 e :: r => (bytesE r).map (catS (chrS e))
  | _ => none

def strE (l : List DV) : Option E := match litsOf l with
  | some ns => some (.ls (strOfNums ns))
  | none => bytesE l

def bytesD (h : T Blk) (d : DV) : Option E := match d with
  | .nils | .mt => some (.ls ByteArray.empty)
  | .slc id o (.li n) _ => match o.terms, h.get id with
    | [], some (.cells l _ _) => if 0 ≤ n ∧ o.base + n.toNat ≤ l.length then strE ((l.drop o.base).take n.toNat) else none
    | _, _ => none
  | _ => none

/-- A variable of the package of which the content is known. -/
def gpD (h : T Blk) : DV → Option DV
  | .gptr g o => match h.get g with
    | some (.cells _ _ (.gl g')) => if g' = g then some (.ptr g ⟨o, []⟩) else none
    | _ => none
  | _ => none

/-- The function behind a method of a dynamic type, where it takes the value as it is. -/
def methodD (t : TypeId) (name : String) : Option FuncId := match P.info? t with
  | some i => match i.methods.find? (fun m => m.name == name) with
    | some m => if m.path.toList.isEmpty then (match m.func, P.underlying t with
      | some (f, true), some (.pointer _) => some f
      | some (_, false), some (.pointer _) => none
      | some (f, false), some _ => some f
      | _, _ => none) else none
    | none => none
  | none => none

def valB (h : T Blk) (t : T DV) : Op → Option DV
  | .load ty x => match (opd t x).bind (gpD h) with
    | some d => loadD P F h ty d
    | none => none
  | .nilCheck x => match opd t x with
    | some (.ifc ty d) => some (.ifc ty d)
    | some (.fn (.method name) (.ifc ty d :: r) cap) => if (methodD P ty name).isSome then some (.fn (.method name) (.ifc ty d :: r) cap) else none
    | _ => none
  | .fieldAddr s x f => match P.underlying s, (opd t x).bind (gpD h) with
    | some (.struct fs), some (.ptr id o) => match fs[f]? with
      | some fd => match P.info? fd.type with
        | some i => if i.size = 0 then none else some (.ptr id (o.add fd.offset))
        | none => none
      | none => none
    | _, _ => none
  | .indexAddr ty x ix => match P.underlying ty, (opd t x).bind (gpD h), opd t ix with
    | some (.array len el), some (.ptr id o), some (.int _ e) => match P.info? el with
      | some i => if idxOk F e (.li len) then some (.ptr id (o.addE e i.size)) else none
      | none => none
    | _, _, _ => none
  | .slice ty x lo hi none => match P.underlying ty, opd t x, optD t lo, optD t hi with
    | some (.slice el), some d, some l, some h => match P.info? el with
      | some i => sliceD F i.size d l h
      | none => none
    | some (.array n el), some (.ptr id o), some l, some h => match P.info? el with
      | some i => sliceD F i.size (.slc id o (.li n) (.ex (.li n))) l h
      | none => none
    | _, _, _, _ => none
  | .convert src dst x => match P.underlying src, P.underlying dst, opd t x with
    | some (.slice e), some .string, some d => match P.underlying e with
      | some (.int .u8) => (bytesD h d).map .str
      | _ => none
    | _, _, _ => none
  | .call c => match c.callee, c.args.toList.mapM (opd t) with
    | .builtin .cap, some [d] => match c.argTypes[0]? with
      | some ty => match P.underlying ty, d with
        | some (.slice _), .slc _ _ _ (.ex (.li n)) => if 0 ≤ n then some (.int .i64 (.li n)) else none
        | some (.slice _), .nils => some (.int .i64 (.li 0))
        | _, _ => none
      | none => none
    | _, _ => none
  | _ => none

def valAB (h : T Blk) (t : T DV) (op : Op) : Option DV := match valA P F h t op with
  | some d => some d
  | none => valB P F h t op

variable {P} {F}

theorem optD_R {m : Emb} {ρ : Env} {t : T DV} {a : Act} (ht : TmpR m ρ t a) {x : Option Operand} {d : Option DV} (h : optD t x = some d) :
    (∀ d', d = some d' → ∃ v, x.map a.eval = some v ∧ d'.R m ρ v) ∧ (d = none → x.map a.eval = none) := by
  cases x with
  | none => simp [optD] at h; subst h; exact ⟨(fun d h => by cases h), fun _ => rfl⟩
  | some x =>
    simp only [optD, Option.map_eq_some_iff] at h
    obtain ⟨d', hd', rfl⟩ := h
    exact ⟨(fun d h => by cases h; exact ⟨_, rfl, opd_R ht hd'⟩), (fun h => by cases h)⟩

theorem snapE_int {ρ : Env} (hF : F.ok ρ) (e : E) : ((snapE F e).ev ρ).int = (e.ev ρ).int := by
  unfold snapE
  split
  · rfl
  · split
    · rename_i x y hr
      split
      · rename_i hxy
        subst hxy
        have h := E.rng_has hF e
        rw [hr] at h
        have h1 := h.1 x rfl
        have h2 := h.2 x rfl
        simp only [E.ev, Sc.int_I]; omega
      · rfl
    · rfl

theorem sliceD_sound {m : Emb} {ρ : Env} (hF : F.ok ρ) {size : Nat} {d r : DV} {lo hi : Option DV} (h : sliceD F size d lo hi = some r) {vd : Value} (hd : d.R m ρ vd) {vlo vhi : Option Value}
    (hlo : (∀ d', lo = some d' → ∃ v, vlo = some v ∧ d'.R m ρ v) ∧ (lo = none → vlo = none)) (hhi : (∀ d', hi = some d' → ∃ v, vhi = some v ∧ d'.R m ρ v) ∧ (hi = none → vhi = none)) (sl : Bool) (w : World) :
    ∃ a n c l hh mm, vd = .slice a n c ∧ (Instr.sliceBounds sl n c vlo vhi none).run P w = .ok (l, hh, mm) w ∧ r.R m ρ (.slice (if mm = l then a else a.map (·.add (l * size))) (hh - l) (mm - l)) := by
  unfold sliceD at h
  split at h
  · rename_i id o len cap
    simp only [DV.R] at hd
    obtain ⟨b, hb, rfl, h0, hcap⟩ := hd
    split at h
    · rename_i ea eb hbn
      have hc : ((match cap with | .ex c => c | .own _ => len).ev ρ).int ≤ (cap.den m ρ id : Int) := by
        cases cap with
        | ex c => simp only [Cap.den]; omega
        | own k => simp only; omega
      obtain ⟨hrun, ha0, hb0, hab, hal, hbl, hbc⟩ := bndsD_spec (P := P) hF hbn hlo.1 hlo.2 hhi.1 hhi.2 (len.ev ρ).int.toNat (cap.den m ρ id) (by omega) hc sl w
      have hble : (eb.ev ρ).int.toNat ≤ cap.den m ρ id := by
        by_cases hn : hi = none
        · have := hbl hn; omega
        · have := hbc hn; omega
      refine ⟨_, _, _, _, _, _, rfl, hrun, ?_⟩
      split at h
      · rename_i hz
        cases h
        have hz' := litI?_eq hz
        subst hz'
        simp only [E.ev, Sc.int_I] at *
        simp only [DV.R, snapE_int hF]
        refine ⟨b, hb, ?_, hb0, hble⟩
        simp [add_none]
      · split at h
        · rename_i hlt
          have hlt' : (ea.ev ρ).int < (eb.ev ρ).int := of_decide_eq_true (E.dec_sound hF hlt)
          simp only [Option.map_eq_some_iff] at h
          obtain ⟨c', hc', rfl⟩ := h
          have hne : ¬ cap.den m ρ id = (ea.ev ρ).int.toNat := by omega
          have hcd : c'.den m ρ id = cap.den m ρ id - (ea.ev ρ).int.toNat := by
            unfold Cap.skip at hc'
            cases cap with
            | ex c => cases hc'; simp only [Cap.den, subI_int]; omega
            | own k =>
              simp only at hc'
              split at hc'
              · rename_i hk
                cases hc'
                have := nonneg_of hF hk
                simp only [Cap.den, addI_int]; omega
              · cases hc'
          simp only [DV.R, snapE_int hF]
          refine ⟨b, hb, ?_, by rw [subI_int]; omega, by rw [subI_int, hcd]; omega⟩
          rw [if_neg hne, hcd, subI_int]
          simp only [Option.map_some, add_none, Off.den_addE]
          congr 1
          omega
        · rename_i hge
          cases h
          have hge' : ¬ (ea.ev ρ).int < (eb.ev ρ).int := of_decide_eq_false (E.dec_sound hF hge)
          simp only [DV.R]
          have : (eb.ev ρ).int.toNat - (ea.ev ρ).int.toNat = 0 := by omega
          rw [this]
          exact ⟨_, _, rfl⟩
        · cases h
    · cases h
  · simp only [Option.map_eq_some_iff] at h
    obtain ⟨⟨ea, eb⟩, hbn, rfl⟩ := h
    simp only [DV.R] at hd
    subst hd
    obtain ⟨hrun, ha0, hb0, hab, hal, hbl, hbc⟩ := bndsD_spec (P := P) hF hbn hlo.1 hlo.2 hhi.1 hhi.2 0 0 rfl (Int.le_refl _) sl w
    have hb' : (eb.ev ρ).int.toNat = 0 := by
      by_cases hn : hi = none
      · have := hbl hn; omega
      · have := hbc hn; omega
    have ha' : (ea.ev ρ).int.toNat = 0 := by
      by_cases hn : lo = none
      · have := hal hn; omega
      · have := hab hn; omega
    refine ⟨_, _, _, _, _, _, rfl, hrun, ?_⟩
    simp only [DV.R, hb', ha']
    simp
  · simp only [Option.map_eq_some_iff] at h
    obtain ⟨⟨ea, eb⟩, hbn, rfl⟩ := h
    simp only [DV.R] at hd
    obtain ⟨a, c, rfl⟩ := hd
    obtain ⟨hrun, ha0, hb0, hab, hal, hbl, hbc⟩ := bndsD_spec (P := P) hF hbn hlo.1 hlo.2 hhi.1 hhi.2 0 c rfl (by simp [E.ev]) sl w
    refine ⟨_, _, _, _, _, _, rfl, hrun, ?_⟩
    have hb' : (eb.ev ρ).int.toNat = 0 := by
      by_cases hn : hi = none
      · have := hbl hn; omega
      · obtain ⟨_, _, _, _, _, _, hbc'⟩ := bndsD_spec (P := P) hF hbn hlo.1 hlo.2 hhi.1 hhi.2 0 0 rfl (Int.le_refl _) sl w
        have := hbc' hn; omega
    simp only [DV.R, hb']
    simp
  · cases h

theorem litsOf_R {m : Emb} {ρ : Env} : ∀ {l : List DV} {ns : List Int} {vs : List Value}, litsOf l = some ns → DV.RL m ρ l vs → vs = ns.map (Value.int .u8)
  | [], ns, vs, h, hv => by simp [litsOf] at h; subst h; simp only [DV.RL] at hv; subst hv; rfl
  | .int .u8 (.li n) :: r, ns, vs, h, hv => by
    simp only [litsOf, Option.map_eq_some_iff] at h
    obtain ⟨ns', h', rfl⟩ := h
    simp only [DV.RL, DV.R, E.ev, Sc.int_I] at hv
    obtain ⟨v, vr, rfl, rfl, hr⟩ := hv
    rw [litsOf_R h' hr]; rfl

theorem bytesE_R {m : Emb} {ρ : Env} : ∀ {l : List DV} {e : E} {vs : List Value}, bytesE l = some e → DV.RL m ρ l vs → ∃ ns : List Int, vs = ns.map (Value.int .u8) ∧ (e.ev ρ).str = strOfNums ns
  | [], e, vs, h, hv => by simp [bytesE] at h; subst h; simp only [DV.RL] at hv; subst hv; exact ⟨[], rfl, rfl⟩
  | d :: r, e, vs, h, hv => by
    unfold bytesE at h
    split at h
    · rename_i heq; cases heq
    · rename_i e' r' heq
      cases heq
      simp only [Option.map_eq_some_iff] at h
      obtain ⟨er, h', rfl⟩ := h
      simp only [DV.RL, DV.R] at hv
      obtain ⟨v, vr, rfl, rfl, hr⟩ := hv
      obtain ⟨ns, rfl, hs⟩ := bytesE_R h' hr
      refine ⟨(e'.ev ρ).int :: ns, rfl, ?_⟩
      rw [catS_str, chrS_str, hs]
      apply ByteArray.ext
      simp [strOfNums, chrOf, ByteArray.data_append]
    · cases h

theorem strE_R {m : Emb} {ρ : Env} {l : List DV} {e : E} {vs : List Value} (h : strE l = some e) (hv : DV.RL m ρ l vs) : ∃ ns : List Int, vs = ns.map (Value.int .u8) ∧ (e.ev ρ).str = strOfNums ns := by
  unfold strE at h
  split at h
  · rename_i ns hl
    cases h
    exact ⟨ns, litsOf_R hl hv, rfl⟩
  · exact bytesE_R h hv

/-- What lies in a row from a place on. -/
theorem cells_seg {m : Emb} {ρ : Env} {l : List DV} {c : Array Value} (hc : ∀ (i : Nat) (d : DV), l[i]? = some d → ∃ v, c[i]? = some v ∧ d.R m ρ v) (hle : l.length ≤ c.size) {b n : Nat} (hb : b + n ≤ l.length) :
    DV.RL m ρ ((l.drop b).take n) ((c.toList.drop b).take n) := by
  refine DV.RL.of_get ?_ fun i d hd => ?_
  · simp; omega
  · rw [List.getElem?_take] at hd
    split at hd
    · rename_i hi
      rw [List.getElem?_drop] at hd
      obtain ⟨v, hv, hr⟩ := hc _ _ hd
      exact ⟨v, by rw [List.getElem?_take, if_pos hi, List.getElem?_drop]; simpa using hv, hr⟩
    · cases hd

theorem bytesD_sound {m : Emb} {ρ : Env} {h : T Blk} {w : World} (hH : HeapR m ρ h w) {d : DV} {e : E} (hd : bytesD h d = some e) {v : Value} (hv : d.R m ρ v) {src el dst : TypeId} (hs : P.underlying src = some (.slice el))
    (he : P.underlying el = some (.int .u8)) (hdst : P.underlying dst = some .string) : (convert src dst v).run P w = .ok (.string (e.ev ρ).str) w := by
  unfold bytesD at hd
  split at hd
  · cases hd
    simp only [DV.R] at hv; subst hv
    exact run_convert_bytes_nil w src el hs he 0 0 dst hdst
  · cases hd
    simp only [DV.R] at hv
    obtain ⟨a, c, rfl⟩ := hv
    cases a with
    | none => exact run_convert_bytes_nil w src el hs he 0 c dst hdst
    | some a =>
      rw [run_convert_bytes_string w src dst el _ 0 c hs he hdst, run_bytesToString w a 0 c [] rfl]
      rfl
  · rename_i id o n cap
    split at hd
    · rename_i l t0 md hterms hg
      split at hd
      · rename_i hcond
        simp only [DV.R, E.ev, Sc.int_I] at hv
        obtain ⟨b, hb, rfl, h0, _⟩ := hv
        obtain ⟨b', ob, hb', ho, c, fr, ⟨t', rfl⟩, hle, hc, hmd⟩ := hH.blk id _ hg rfl
        rw [hb] at hb'; cases hb'
        have hseg := cells_seg hc hle hcond.2
        obtain ⟨ns, hns, hstr⟩ := strE_R hd hseg
        have hden : o.den ρ = o.base := by simp [Off.den, hterms, sumT]
        have hlen : ns.length = n.toNat := by
          have := congrArg List.length hns
          simp only [List.length_take, List.length_drop, Array.length_toList, List.length_map] at this
          omega
        have hl : (loadCells ⟨b, o.den ρ, none⟩ n.toNat).run P w = .ok (ns.map (Value.int .u8)).toArray w := by
          have := run_loadCells_list (P := P) w ⟨b, o.den ρ, none⟩ (ns.map (Value.int .u8)) (fun j v hj => by
            rw [add_none, cell_at ho, hden]
            rw [← hns, List.getElem?_take] at hj
            split at hj
            · rw [List.getElem?_drop] at hj; simpa using hj
            · cases hj)
          simpa [hlen] using this
        rw [run_convert_bytes_string w src dst el _ _ _ hs he hdst, run_bytesToString w _ _ _ ns hl, foldl_push_bytes, hstr]
        simp [strOfNums, ByteArray.empty, ByteArray.emptyWithCapacity]
        rfl
      · cases hd
    · cases hd
  · cases hd

theorem nilAhead_run {t : TypeId} {name : String} (h : (methodD P t name).isSome = true) (v : Value) (w : World) : (nilAhead (P.types.size + Made.depth) t v name).run P w = .ok (some false) w := by
  have hn : P.types.size + Made.depth = (P.types.size + 99) + 1 := rfl
  rw [hn]
  generalize P.types.size + 99 = n
  unfold methodD at h
  split at h
  · rename_i i hi
    split at h
    · rename_i m hm
      split at h
      · rename_i hp
        have hp' : m.path.toList = [] := List.isEmpty_iff.1 hp
        split at h
        · rename_i f' e hf hu
          simp only [nilAhead, typeInfo, Sem.run_bind, run_program, hi, hm, hp', followBlind, hf, Sem.run_pure, Result.andThen_ok]
        · cases h
        · rename_i f' d hne hf hu
          simp only [nilAhead, typeInfo, Sem.run_bind, run_program, hi, hm, hp', followBlind, hf, run_underlying hu, Sem.run_pure, Result.andThen_ok]
          cases d <;> simp_all
        · cases h
      · cases h
    · cases h
  · cases h

theorem gpD_R {m : Emb} {ρ : Env} {h : T Blk} {w : World} (hH : HeapR m ρ h w) {d d' : DV} (hd : gpD h d = some d') {v : Value} (hv : d.R m ρ v) : d'.R m ρ v := by
  unfold gpD at hd
  split at hd
  · rename_i g o
    split at hd
    · rename_i l t g' hg
      split at hd
      · rename_i e
        subst e
        cases hd
        obtain ⟨b, ob, hb, ho, c, fr, _, _, _, hmd⟩ := hH.blk _ _ hg rfl
        simp only [DV.R] at hv ⊢
        exact ⟨g', hmd, by simpa [Off.den, sumT] using hv⟩
      · cases hd
    · cases hd
  · cases hd

theorem bind_R {m : Emb} {ρ : Env} {h : T Blk} {w : World} (hH : HeapR m ρ h w) {t : T DV} {a : Act} (ht : TmpR m ρ t a) {x : Operand} {d : DV} (hd : (opd t x).bind (gpD h) = some d) : d.R m ρ (a.eval x) := by
  simp only [Option.bind_eq_some_iff] at hd
  obtain ⟨d0, h0, h1⟩ := hd
  exact gpD_R hH h1 (opd_R ht h0)

theorem valB_sound {m : Emb} {ρ : Env} (hF : F.ok ρ) {h : T Blk} {t : T DV} {a : Act} {w : World} (hH : HeapR m ρ h w) (ht : TmpR m ρ t a) {o : Oper} {d : DV} (hd : valB P F h t o.op = some d) :
    ∃ v, (execOp a.eval o).run P w = .ok (.value v) w ∧ d.R m ρ v := by
  obtain ⟨dst, op, type, pos, after, guard⟩ := o
  simp only at hd
  cases op <;> simp only [valB, reduceCtorEq] at hd
  case load ty x =>
    split at hd
    · rename_i dp hp
      obtain ⟨v, hv, hr⟩ := loadD_sound hF hH hd (bind_R hH ht hp)
      exact ⟨v, run_v hv, hr⟩
    · cases hd
  case nilCheck x =>
    split at hd
    · rename_i ty d hx
      cases hd
      have hR := opd_R ht hx
      have hv := hR
      simp only [DV.R] at hv
      obtain ⟨u, hv, _⟩ := hv
      exact ⟨a.eval x, by simp [execOp, hv], hR⟩
    · rename_i name ty d r cap hx
      split at hd
      · rename_i hm
        cases hd
        have hR := opd_R ht hx
        have hv := hR
        simp only [DV.R, DV.RL] at hv
        obtain ⟨y1, y2, hv, ⟨u, ur, hxl, ⟨u', rfl, _⟩, _⟩, _⟩ := hv
        have hx : y1 = (Value.iface ty u' :: ur).toArray := by rw [← hxl]
        subst hx
        have hna := nilAhead_run hm u' w
        refine ⟨a.eval x, ?_, hR⟩
        simp only [execOp, hv, List.getElem?_toArray, List.getElem?_cons_zero, Sem.run_bind, run_program, Result.andThen_ok, hna]
        rfl
      · cases hd
    · cases hd
  case fieldAddr s x f =>
    split at hd
    · rename_i fs id of hs hx
      split at hd
      · rename_i fd hfd
        split at hd
        · rename_i i hi
          split at hd
          · cases hd
          · rename_i hsz
            cases hd
            obtain ⟨b, hb, hv⟩ := R_ptr_inv (bind_R hH ht hx)
            refine ⟨.pointer (some ⟨b, of.den ρ + fd.offset, none⟩), run_v ?_, ?_⟩
            · rw [hv]
              simp [Instr.fieldAt, run_underlying hs, hfd, Instr.sureAddr, fieldPlace, sizeOf, typeInfo, hi, hsz, add_none]
            · simp only [DV.R]; exact ⟨b, hb, by rw [Off.den_add]⟩
        · cases hd
      · cases hd
    · cases hd
  case indexAddr ty x ix =>
    split at hd
    · rename_i len el id of k e hu hx hix
      split at hd
      · rename_i i hi
        split at hd
        · rename_i hok
          cases hd
          obtain ⟨h0, h1⟩ := idxOk_spec hF hok
          simp only [E.ev, Sc.int_I] at h1
          obtain ⟨b, hb, hv⟩ := R_ptr_inv (bind_R hH ht hx)
          have hRi := opd_R ht hix
          simp only [DV.R] at hRi
          refine ⟨.pointer (some ⟨b, of.den ρ + (e.ev ρ).int.toNat * i.size, none⟩), run_v ?_, ?_⟩
          · rw [hv, hRi]
            simp [Instr.indexAt, run_underlying hu, asIntOf, Instr.sureAddr, sizeOf, typeInfo, hi, add_none, h0, h1]
          · simp only [DV.R]; exact ⟨b, hb, by rw [Off.den_addE]⟩
        · cases hd
      · cases hd
    · cases hd
  case slice ty x lo hi mx =>
    cases mx with
    | some mx => simp at hd
    | none =>
      simp only at hd
      split at hd
      · rename_i el dx l hh hu hx hlo hhi
        split at hd
        · rename_i i hi'
          obtain ⟨ad, n, c, l', hh', mm, hv, hrun, hr⟩ := sliceD_sound (P := P) hF hd (opd_R ht hx) (optD_R ht hlo) (optD_R ht hhi) true w
          refine ⟨_, run_v ?_, hr⟩
          rw [hv]
          simp only [Instr.sliceAt, Instr.slice, Sem.run_bind, run_underlying hu, Result.andThen_ok, Option.map_none, hrun, Sem.run_pure]
          simp [sizeOf, typeInfo, hi']
        · cases hd
      · rename_i n el id o l hh hu hx hlo hhi
        split at hd
        · rename_i i hi'
          obtain ⟨b, hb, hv⟩ := R_ptr_inv (opd_R ht hx)
          have hR : (DV.slc id o (.li n) (.ex (.li n))).R m ρ (.slice (some ⟨b, o.den ρ, none⟩) n n) := by
            simp only [DV.R, E.ev, Sc.int_I, Cap.den]
            exact ⟨b, hb, by simp, by omega, by omega⟩
          obtain ⟨ad, n', c, l', hh', mm, hv', hrun, hr⟩ := sliceD_sound (P := P) hF hd hR (optD_R ht hlo) (optD_R ht hhi) false w
          cases hv'
          refine ⟨_, run_v ?_, hr⟩
          rw [hv]
          simp only [Instr.sliceAt, Instr.sureAddr, Sem.run_bind, run_underlying hu, Result.andThen_ok, Option.map_none, hrun, Sem.run_pure]
          simp [sizeOf, typeInfo, hi']
          split <;> rfl
        · cases hd
      · cases hd
  case convert src dst' x =>
    split at hd
    · rename_i e dx hs hu hx
      split at hd
      · rename_i he
        simp only [Option.map_eq_some_iff] at hd
        obtain ⟨e', he', rfl⟩ := hd
        refine ⟨.string (e'.ev ρ).str, run_v (bytesD_sound hH he' (opd_R ht hx) hs he hu), by simp only [DV.R]⟩
      · cases hd
    · cases hd
  case call c =>
    obtain ⟨callee, args, argTypes⟩ := c
    simp only at hd
    split at hd
    · rename_i d0 hargs
      have hA := opds_R ht hargs
      simp only [DV.RL] at hA
      obtain ⟨v0, vr, he, hR, rfl⟩ := hA
      have hmap : args.map a.eval = #[v0] := Array.toList_inj.1 (by rw [Array.toList_map]; exact he)
      split at hd
      · rename_i ty hty
        have red : ∀ {v}, (Builtin.cap_ argTypes type #[v0]).run P w = .ok v w → (execOp a.eval ⟨dst, .call ⟨.builtin .cap, args, argTypes⟩, type, pos, after, guard⟩).run P w = .ok (.value v) w := by
          intro v hv
          simp [execOp, resolve, hmap, invoke, builtin, hv]
        split at hd
        · rename_i el id o len n hu
          split at hd
          · rename_i h0
            cases hd
            simp only [DV.R, E.ev, Sc.int_I, Cap.den] at hR
            obtain ⟨b, hb, rfl, _, _⟩ := hR
            exact ⟨.int .i64 ((n.toNat : Nat) : Int), red (by simp [Builtin.cap_, hty, run_underlying hu, goInt]), by simp only [DV.R, E.ev, Sc.int_I]; rw [Int.toNat_of_nonneg h0]⟩
          · cases hd
        · rename_i el hu
          cases hd
          simp only [DV.R] at hR; subst hR
          exact ⟨.int .i64 0, red (by simp [Builtin.cap_, hty, run_underlying hu, goInt]), rfl⟩
        · cases hd
      · cases hd
    · cases hd
  all_goals simp at hd

theorem valAB_sound {m : Emb} {ρ : Env} (hF : F.ok ρ) {h : T Blk} {t : T DV} {a : Act} {w : World} (hH : HeapR m ρ h w) (ht : TmpR m ρ t a) {o : Oper} {d : DV} (hd : valAB P F h t o.op = some d) :
    ∃ v, (execOp a.eval o).run P w = .ok (.value v) w ∧ d.R m ρ v := by
  unfold valAB at hd
  split at hd
  · rename_i d' h'; cases hd; exact valA_sound hF hH ht h'
  · exact valB_sound hF hH ht hd

end
end Go.Eng
