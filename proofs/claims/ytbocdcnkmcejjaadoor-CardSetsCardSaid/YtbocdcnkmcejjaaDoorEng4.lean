/- THE ENGINE, piece 4: an interpreter of the model over abstract values, proved sound. -/
import Derived.Test.YtbocdcnkmcejjaaDoorEng3
/- ENGINE, PART 17e: of what a call has laid only the slice in its answer (a slice and a number) is looked at. -/
namespace Go.Eng
open Go
theorem FnOK.lastAtW {P : Program} {f : FuncId} {args : List V} {h h' : List Blk} {j : Nat} {nn n2 : Bool} (hnn : n2 = true → nn = true) {ty : TypeId} {sz : Nat} {row : Row} {k : IntKind} {z : Int} (hk : FnOK P f args h (.tuple [.gs j, .int k z]) h') (hb : h'[j]? = some (.grow nn ty sz row)) (hr : rowPlain row = true)
    (hm : ∀ (b : Nat) blk, h[b]? = some blk → blk.mine = false) : FnOK P f args h (.tuple [.gs h.length, .int k z]) (h ++ [.grow n2 ty sz row]) := by
  intro E W hh hin
  refine (hk E W hh hin).mono ?_
  rintro e W' ⟨x, E2, rfl, hx, hh2, ht⟩
  obtain ⟨hd, _, hz, hl, hcap, hnil, hc⟩ := hh2.ok j _ hb
  obtain ⟨k1, k2⟩ := hh.below (keeps_of hm ht).below
  have hE := Agree.one E h.length (E2.blk j) (E2.delta j) (E2.len j) (E2.cap j) (E2.isnil j) (E2.base j)
  have hfresh : E2.isnil j = false → W.heap.size ≤ E2.blk j := fun hn => by
    have hlive : liveAt E2 j (.grow nn ty sz row) = true := by simp [liveAt, hn]
    rcases ht.mine (E2.blk j) ⟨_, _, hb, rfl, hlive, rfl⟩ with ⟨b, blk, hb1, hm1, _⟩ | hge
    · rw [hm b blk hb1] at hm1; cases hm1
    · exact hge
  refine ⟨x, _, rfl, .inr ⟨by simp [inS, inSs], ?_⟩, Holds.snoc (k1.keep hE fun _ _ => rfl) ⟨by simp [Env.one, hd], (rowPlain_ok hr E E _).1, hz, by simp [Env.one, hl], by simp [Env.one, hcap], fun hn => ⟨(hnil (by simpa [Env.one] using hn)).1, by
    have h0 := (hnil (by simpa [Env.one] using hn)).2
    cases hx2 : n2 with
    | false => rfl
    | true => rw [hnn hx2] at h0; cases h0⟩, fun hn => ?_⟩ (fun b y hb1 hl1 hl2' _ he => ?_), ?_⟩
  · rw [(hx.val (by simp)).1]
    simp [conc, concs, Env.one, hd]
  · obtain ⟨fz, spare, hfz, hsp, hcc⟩ := hc (by simpa [Env.one] using hn)
    refine ⟨fz, spare, hfz, by simp only [Env.one, if_true]; exact hsp, ?_⟩
    simp only [Env.one, if_true]
    rw [hcc]
    congr 4
    have hpl := (rowPlain_ok hr E2 (E.one h.length (E2.blk j) (E2.delta j) (E2.len j) (E2.cap j) (E2.isnil j) (E2.base j)) 0).2
    rw [concs_eq, concs_eq]
    apply List.ext_getElem?
    intro j
    rw [List.getElem?_map, List.getElem?_map]
    cases hj : row.toVs[j]? with
    | none => rfl
    | some u =>
      simp only [Option.map_some]
      exact congrArg some (hpl j u hj)
  · have h5 := hfresh (by simpa [liveAt, Env.one] using hl2')
    have h6 := (hh.ok b y hb1).lt (by rw [← liveAt_agree hE (getElem?_lt hb1)]; exact hl1)
    rw [hE.blk _ (getElem?_lt hb1)] at he
    simp only [Env.one, if_true] at he
    omega
  · refine ⟨hE, by simp, fun z hz => ?_, k2.frame, k2.size, k2.os, k2.tape, k2.output⟩
    obtain ⟨b', y, hb1, hm1, hl1, he1⟩ := hz
    rcases getElem?_snoc hb1 with hb1 | ⟨q3, q4⟩
    · have hlt := getElem?_lt hb1
      rw [liveAt_agree hE hlt] at hl1
      rw [hE.blk _ hlt] at he1
      exact .inl ⟨b', y, hb1, hm1, hl1, he1⟩
    · subst q3; subst q4
      simp only [Env.one, if_true] at he1
      have := hfresh (by simpa [liveAt, Env.one] using hl1)
      exact .inr (by omega)
theorem FnOK.lastAtT {P : Program} {f : FuncId} {args : List V} {h h' : List Blk} {j : Nat} {nn : Bool} {ty : TypeId} {sz : Nat} {row : Row} {k : IntKind} {z : Int} (hk : FnOK P f args h (.tuple [.gs j, .int k z]) h') (hb : h'[j]? = some (.grow nn ty sz row)) (hr : rowPlain row = true)
    (hm : ∀ (b : Nat) blk, h[b]? = some blk → blk.mine = false) : FnOK P f args h (.tuple [.gs h.length, .int k z]) (h ++ [.grow nn ty sz row]) := hk.lastAtW id hb hr hm
/-- A nil slice in an answer, taken for an empty slice of ours. -/
theorem FnOK.nilT {P : Program} {f : FuncId} {args : List V} {h h' : List Blk} {ty : TypeId} {kk k : IntKind} {z : Int} (hk : FnOK P f args h (.tuple [.flat (.slice none 0 0), .int k z]) h')
    (hm : ∀ (b : Nat) blk, h[b]? = some blk → blk.mine = false) : FnOK P f args h (.tuple [.gs h.length, .int k z]) (h ++ [.grow false ty 1 (.ints kk [])]) := by
  have hk := hk.plain rfl hm
  intro E W hh hin
  refine (hk E W hh hin).mono ?_
  rintro e W' ⟨x, E2, rfl, hx, hh2, ht⟩
  have hg : AllGh [.grow false ty 1 (.ints kk [])] := by
    intro b hb
    rw [List.mem_singleton] at hb
    subst hb
    exact .mk _ _ _ rfl (by omega)
  refine ⟨x, E2.gh h.length, rfl, .inr ⟨by simp [inS, inSs], ?_⟩, gh_holds hh2 hg, ⟨ht.agree.trans (Agree.gh E2 _) (Nat.le_refl _), by simp, fun z hz => ht.mine z (gh_mine hg hz), ht.frame, ht.size, ht.os, ht.tape, ht.output⟩⟩
  rw [(hx.val (by simp)).1]
  simp [conc, concs]
  simp [Env.gh]
end Go.Eng

/- ENGINE, PART 14b: rounds that end in families that depend on the way out. -/
namespace Go.Eng
open Go

/-- Rows of slices of ours, tidied. -/
def tidyB : Blk → Blk
  | .grow nn ty sz row => .grow nn ty sz (tidyR row)
  | b => b
def tidyBs : List Blk → List Blk
  | [] => []
  | b :: r => tidyB b :: tidyBs r
theorem tidyBs_eq : ∀ l : List Blk, tidyBs l = l.map tidyB
  | [] => rfl
  | b :: r => by simp only [tidyBs, List.map_cons, tidyBs_eq r]
def AS.tidy (s : AS) : AS := ⟨s.tmps, tidyBs s.heap, s.marks⟩
theorem tidyR_len (row : Row) : (tidyR row).len = row.len := by rw [Row.len_eq, tidyR_ok, ← Row.len_eq]
theorem tidy_blk {E : Env} {n : Nat} {W : World} {b : Nat} {blk : Blk} (h : BlkOk E n W b blk) : BlkOk E n W b (tidyB blk) := by
  cases blk
  case grow nn ty sz row =>
    simp only [tidyB]
    obtain ⟨h1, h2, h3, h4, h5, h6, h7⟩ := h
    exact ⟨h1, by rw [tidyR_ok]; exact h2, h3, by rw [tidyR_len]; exact h4, h5, fun hn => by rw [tidyR_len]; exact h6 hn, fun hn => by
      obtain ⟨fz, spare, q1, q2, q3⟩ := h7 hn
      exact ⟨fz, spare, by rw [tidyR_len]; exact q1, by rw [tidyR_len]; exact q2, by rw [tidyR_ok]; exact q3⟩⟩
  all_goals exact h
theorem tidy_mine (b : Blk) : (tidyB b).mine = b.mine := by cases b <;> rfl
theorem tidy_live (E : Env) (n : Nat) (b : Blk) : liveAt E n (tidyB b) = liveAt E n b := by cases b <;> rfl
theorem tidy_get {h : List Blk} {b : Nat} {x : Blk} (hx : (tidyBs h)[b]? = some x) : ∃ y, h[b]? = some y ∧ x = tidyB y := by
  rw [tidyBs_eq, List.getElem?_map, Option.map_eq_some_iff] at hx
  obtain ⟨y, h1, h2⟩ := hx
  exact ⟨y, h1, h2.symm⟩
theorem tidyBs_len (h : List Blk) : (tidyBs h).length = h.length := by rw [tidyBs_eq, List.length_map]
theorem tidy_holds {E : Env} {h : List Blk} {W : World} (hh : Holds E h W) : Holds E (tidyBs h) W := by
  refine ⟨fun b blk hb => ?_, fun b b' x x' hb hb' hm hl hl' he => ?_⟩
  · obtain ⟨y, h1, rfl⟩ := tidy_get hb
    rw [tidyBs_len]
    exact tidy_blk (hh.ok b y h1)
  · obtain ⟨y, h1, rfl⟩ := tidy_get hb
    obtain ⟨y', h1', rfl⟩ := tidy_get hb'
    rw [tidy_mine] at hm
    rw [tidy_live] at hl hl'
    exact hh.inj b b' y y' h1 h1' hm hl hl' he
theorem SimC.tidy_post {P : Program} {n0 : Nat} {rd : Option Nat} {c : Code} {s s' : AS} {e : XE} (h : SimC P n0 rd c s e s') : SimC P n0 rd c s e s'.tidy := by
  intro ro E0 a0 W0 hst0 hro hn0
  refine wpIn_mono (h ro E0 a0 W0 hst0 hro hn0) ?_
  rintro e' a W ⟨rfl, E, hst, h2⟩
  refine ⟨rfl, E, ⟨hst.size, fun i v hi => ?_, hst.defers, fun x hx => ?_, tidy_holds hst.heap⟩, ⟨h2.agree, ?_, fun k hk => h2.mine k ?_, h2.frame, h2.size, h2.os, h2.tape, h2.output⟩⟩
  · obtain ⟨x, hx, hv⟩ := hst.slots i v hi
    exact ⟨x, hx, by simp only [AS.tidy, tidyBs_len]; exact hv⟩
  · simp only [AS.tidy, tidyBs_len]; exact hst.scope x hx
  · simp only [AS.tidy, tidyBs_len]; exact h2.len
  · obtain ⟨b, x, hb, q1, q2, q3⟩ := hk
    obtain ⟨y, hy, rfl⟩ := tidy_get hb
    rw [tidy_mine] at q1
    rw [tidy_live] at q2
    exact ⟨b, y, hy, q1, q2, q3⟩
/-- One round: on to T2, or out to T' e; rows tidied. -/
def roundX (P : Program) (C : Oracle) (L : Loops) (N : Nat) (n0 : Nat) (rd : Option Nat) (me : FuncId) (c : Code) (T T2 : Tm) (T' : XE → Tm) (ps : List PV) : Option (XE × List PV × List (Code × Code)) := evalCode P C L N n0 rd me c (T.at ps) (fun e s => match e with
  | .normal => match T2.find n0 (s.tidy.ghost T2) with
    | some a => some (e, a)
    | none => none
  | e => match (T' e).find n0 (s.tidy.ghost (T' e)) with
    | some a => some (e, a)
    | none => none)
theorem roundX_sim {P : Program} {C : Oracle} {L : Loops} {N n0 : Nat} {rd : Option Nat} {me : FuncId} {c : Code} {T T2 : Tm} {T' : XE → Tm} {ps qs : List PV} {e : XE} {l : List (Code × Code)} (hC : OracleOk P C) (hm : P.follows .mixedOrders = true) (hl : loopsOk P L) (hk : T2.ok = true) (hk' : ∀ e, (T' e).ok = true)
    (h : roundX P C L N n0 rd me c T T2 T' ps = some (e, qs, l)) (hc : codesOk l) : (e = .normal → SimC P n0 rd c (T.at ps) e (T2.at qs)) ∧ (e ≠ .normal → SimC P n0 rd c (T.at ps) e ((T' e).at qs)) := by
  obtain ⟨e1, s1, h1, h2⟩ := evalCode_ok hC hm hl h
  have main : ∀ {U : Tm}, U.ok = true → U.find n0 (s1.tidy.ghost U) = some (qs, l) → SimC P n0 rd c (T.at ps) e1 (U.at qs) := fun {U} hU hma => by
    obtain ⟨ρ, hs⟩ := U.find_ok hma hc hU
    exact h2.tidy_post.ghost_post.post hs
  cases e1 with
  | normal =>
    simp only at h1
    split at h1
    · rename_i a ha
      cases h1
      exact ⟨fun _ => main hk ha, fun h => absurd rfl h⟩
    · cases h1
  | _ =>
    simp only at h1
    split at h1
    · rename_i a ha
      cases h1
      exact ⟨fun he => (by cases he), fun _ => main (hk' _) ha⟩
    · cases h1
theorem loop_of_roundsX_n {P : Program} {C : Oracle} {L : Loops} {N n0 : Nat} {rd : Option Nat} {me : FuncId} {c : Code} {T : Tm} {T' : XE → Tm} (hC : OracleOk P C) (hm : P.follows .mixedOrders = true) (hl : loopsOk P L) (hk : T.ok = true) (hk' : ∀ e, (T' e).ok = true)
    {X : Type} (enc : X → List PV) (inv : X → Prop) (μ : X → Nat) (fin : X → XE × List PV)
    (round : ∀ x, inv x → ∃ e qs l, roundX P C L N n0 rd me c T T T' (enc x) = some (e, qs, l) ∧ codesOk l ∧
      ((e = .normal ∧ ∃ y, qs = enc y ∧ inv y ∧ μ y < μ x ∧ fin y = fin x) ∨ (e ≠ .normal ∧ (e, qs) = fin x))) :
    ∀ x, inv x → ∃ n, SimL P n0 rd c n (T.at (enc x)) (fin x).1 ((T' (fin x).1).at (fin x).2) := by
  have key : ∀ m x, μ x = m → inv x → ∃ n, SimL P n0 rd c n (T.at (enc x)) (fin x).1 ((T' (fin x).1).at (fin x).2) := by
    intro m
    induction m using Nat.strongRecOn with
    | _ m ih =>
      intro x hm' hx
      obtain ⟨e, qs, l, h1, h2, h3⟩ := round x hx
      obtain ⟨q1, q2⟩ := roundX_sim hC hm hl hk hk' h1 h2
      rcases h3 with ⟨rfl, y, rfl, hy, hlt, hf⟩ | ⟨hne, hf⟩
      · obtain ⟨n, hn⟩ := ih (μ y) (hm' ▸ hlt) y rfl hy
        rw [hf] at hn
        exact ⟨n + 1, (q1 rfl).step hn⟩
      · rw [← hf]
        exact ⟨1, (q2 hne).leave hne⟩
  exact fun x hx => key _ x rfl hx
theorem loop_peelX {P : Program} {C : Oracle} {L : Loops} {N n0 : Nat} {rd : Option Nat} {me : FuncId} {c : Code} {T T2 : Tm} {T' : XE → Tm} {ps qs : List PV} {l : List (Code × Code)} {e : XE} {s' : AS} {n : Nat} (hC : OracleOk P C) (hm : P.follows .mixedOrders = true) (hl : loopsOk P L) (hk : T2.ok = true) (hk' : ∀ e, (T' e).ok = true)
    (h : roundX P C L N n0 rd me c T T2 T' ps = some (.normal, qs, l)) (hc : codesOk l) (h2 : SimL P n0 rd c n (T2.at qs) e s') : SimC P n0 rd (.loop c) (T.at ps) e s' :=
  (((roundX_sim hC hm hl hk hk' h hc).1 rfl).step h2).loop
theorem loop_leaveX {P : Program} {C : Oracle} {L : Loops} {N n0 : Nat} {rd : Option Nat} {me : FuncId} {c : Code} {T T2 : Tm} {T' : XE → Tm} {ps qs : List PV} {l : List (Code × Code)} {e : XE} (hC : OracleOk P C) (hm : P.follows .mixedOrders = true) (hl : loopsOk P L) (hk : T2.ok = true) (hk' : ∀ e, (T' e).ok = true)
    (h : roundX P C L N n0 rd me c T T2 T' ps = some (e, qs, l)) (hc : codesOk l) (he : e ≠ .normal) : SimC P n0 rd (.loop c) (T.at ps) e ((T' e).at qs) :=
  (((roundX_sim hC hm hl hk hk' h hc).2 he).leave he).loop
end Go.Eng
