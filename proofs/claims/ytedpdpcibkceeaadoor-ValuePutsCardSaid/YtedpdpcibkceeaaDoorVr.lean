import Derived.Test.YtedpdpcibkceeaaDoorMem
import Derived.Test.YtedpdpcibkceeaaDoorV
/-
  How values of the configuration language lie in memory: the relation, that it stays under Below, and that an argument that can be read as data has it. Conditions: those ahead of each theorem.
-/
namespace Go.Proofs.YtedpdpcibkceeaaDoor
open Go.RowKit Go.Sort
set_option linter.unusedVariables false
set_option linter.unusedSimpArgs false

/-- Five cells that read as a value, all the way down. -/
inductive VR (w : World) : List Value → Val → Prop where
  | mk (k n : Int) (s : ByteArray) (is : List Val) (ks : List ByteArray) (r : Option Addr) (b off c : Nat) (cs : Nat → List Value) (vK : Value)
      (hk : -9223372036854775808 ≤ k ∧ k ≤ 9223372036854775807) (hn : -9223372036854775808 ≤ n ∧ n ≤ 9223372036854775807) (hs : s.size ≤ maxLen)
      (hl : is.length ≤ c) (hc : c ≤ maxLen) (hr : is ≠ [] → r = some ⟨b, off, none⟩) (h5 : ∀ i, i < is.length → (cs i).length = 5)
      (hcell : ∀ (i j : Nat) (u : Value), i < is.length → (cs i)[j]? = some u → w.cell? ⟨b, off + i * 5 + j, none⟩ = some u)
      (hR : ∀ (i : Nat) (h : i < is.length), VR w (cs i) is[i]) (hK : Sl StrR 1 w vK ks) (hkl : ks.length ≤ 10000000000000) (hil : is.length ≤ 10000000000000) : VR w [.int .i64 k, .int .i64 n, .string s, .slice r is.length c, vK] (.mk k n s is ks)

def i64B (n : Int) : Prop := -9223372036854775808 ≤ n ∧ n ≤ 9223372036854775807
theorem VR.open' {w : World} {cs : List Value} {x : Val} (h : VR w cs x) : ∃ r c vK, cs = [.int .i64 x.kind, .int .i64 x.num, .string x.str, .slice r x.items.length c, vK] ∧ Sl VR 5 w (.slice r x.items.length c) x.items ∧ Sl StrR 1 w vK x.keys ∧
    i64B x.kind ∧ i64B x.num ∧ x.str.size ≤ maxLen ∧ x.keys.length ≤ 10000000000000 ∧ x.items.length ≤ 10000000000000 := by
  cases h with
  | mk k n s is ks r b off c cs vK hk hn hs hl hc hr h5 hcell hR hK hkl hil =>
    refine ⟨r, c, vK, rfl, ⟨r, c, rfl, hl, hc, fun i hi => ⟨b, off, cs i, hr (fun e => by simp only [Val.items] at hi; rw [e] at hi; simp at hi), h5 i hi, fun j u hj => hcell i j u hi hj, hR i hi⟩⟩, hK, hk, hn, hs, hkl, hil⟩
theorem VR.make {w : World} {x : Val} {r : Option Addr} {c : Nat} {vK : Value} (hI : Sl VR 5 w (.slice r x.items.length c) x.items) (hK : Sl StrR 1 w vK x.keys) (hk : i64B x.kind) (hn : i64B x.num) (hs : x.str.size ≤ maxLen) (hkl : x.keys.length ≤ 10000000000000) (hil : x.items.length ≤ 10000000000000) :
    VR w [.int .i64 x.kind, .int .i64 x.num, .string x.str, .slice r x.items.length c, vK] x := by
  obtain ⟨r', c', hv, hl, hc, he⟩ := hI
  simp at hv
  obtain ⟨rfl, rfl⟩ := hv
  obtain ⟨k, n, s, is, ks⟩ := x
  simp only [Val.kind, Val.num, Val.str, Val.items, Val.keys] at *
  cases hr : r with
  | none =>
    have h0 : is = [] := by
      cases is with
      | nil => rfl
      | cons y ys => obtain ⟨b, off, cs, h1, _⟩ := he 0 (by simp); rw [hr] at h1; cases h1
    subst h0
    exact .mk k n s [] ks none 0 0 c (fun _ => []) vK hk hn hs hl hc (fun h => absurd rfl h) (fun i h => absurd h (by simp)) (fun i j u h => absurd h (by simp)) (fun i h => absurd h (by simp)) hK hkl hil
  | some a =>
    have hex : ∃ cs : Nat → List Value, ∀ i (h : i < is.length), ∃ b off, some a = some ⟨b, off, none⟩ ∧ (cs i).length = 5 ∧ (∀ (j : Nat) (u : Value), (cs i)[j]? = some u → w.cell? ⟨b, off + i * 5 + j, none⟩ = some u) ∧ VR w (cs i) is[i] := by
      have hall : ∀ i, ∃ cs : List Value, ∀ (h : i < is.length), ∃ b off, some a = some ⟨b, off, none⟩ ∧ cs.length = 5 ∧ (∀ (j : Nat) (u : Value), cs[j]? = some u → w.cell? ⟨b, off + i * 5 + j, none⟩ = some u) ∧ VR w cs is[i] := fun i => by
        by_cases h : i < is.length
        · obtain ⟨b, off, cs, h1, h2⟩ := he i h
          exact ⟨cs, fun _ => ⟨b, off, by rw [← hr]; exact h1, h2⟩⟩
        · exact ⟨[], fun h' => absurd h' h⟩
      obtain ⟨f, hf⟩ := Classical.skolem.1 hall
      exact ⟨f, hf⟩
    obtain ⟨cs, hcs⟩ := hex
    by_cases h0 : is = []
    · subst h0
      exact .mk k n s [] ks (some a) 0 0 c (fun _ => []) vK hk hn hs hl hc (fun h => absurd rfl h) (fun i h => absurd h (by simp)) (fun i j u h => absurd h (by simp)) (fun i h => absurd h (by simp)) hK hkl hil
    · have hpos : 0 < is.length := List.length_pos_iff.2 h0
      obtain ⟨b, off, ha, _⟩ := hcs 0 hpos
      have hat : ∀ i (h : i < is.length), (cs i).length = 5 ∧ (∀ (j : Nat) (u : Value), (cs i)[j]? = some u → w.cell? ⟨b, off + i * 5 + j, none⟩ = some u) ∧ VR w (cs i) is[i] := fun i h => by
        obtain ⟨b', off', ha', h1⟩ := hcs i h
        rw [ha] at ha'
        simp at ha'
        obtain ⟨rfl, rfl⟩ := ha'
        exact h1
      exact .mk k n s is ks (some a) b off c cs vK hk hn hs hl hc (fun _ => ha) (fun i h => (hat i h).1) (fun i j u h => (hat i h).2.1 j u) (fun i h => (hat i h).2.2) hK hkl hil

theorem vr_mono : Mono VR := by
  intro w w' cs x hb h
  induction h with
  | mk k n s is ks r b off c cs vK hk hn hs hl hc hr h5 hcell hR hK hkl hil ih =>
    exact .mk k n s is ks r b off c cs vK hk hn hs hl hc hr h5 (fun i j u hi hj => bget hb (hcell i j u hi hj)) (fun i h => ih i h) (hK.below strR_mono hb) hkl hil

theorem vr_len {w : World} {cs : List Value} {x : Val} (h : VR w cs x) : cs.length = 5 := by
  obtain ⟨_, _, _, rfl, _⟩ := h.open'
  rfl
theorem list_fit5 {cs : List Value} {a b c d e : Value} (h : cs.length = 5) (h0 : cs[0]? = some a) (h1 : cs[1]? = some b) (h2 : cs[2]? = some c) (h3 : cs[3]? = some d) (h4 : cs[4]? = some e) : cs = [a, b, c, d, e] := by
  match cs, h with
  | [x, y, z, u, v], _ => simp at h0 h1 h2 h3 h4; subst h0 h1 h2 h3 h4; rfl

theorem weightsAll_mem {H : Type} {P : Program} {e : TypeId} : ∀ {l : List (DataW H)} {d : DataW H} {m : Nat}, d ∈ l → m ∈ d.weights P e → m ∈ DataW.weightsAll P e l
  | x :: l, d, m, h, hm => by
    rw [DataW.weightsAll]
    rcases List.mem_cons.1 h with rfl | h
    · exact List.mem_append_left _ hm
    · exact List.mem_append_right _ (weightsAll_mem h hm)
theorem weightsEach_mem {H : Type} {P : Program} : ∀ {ts : List TypeId} {l : List (DataW H)} {k : Nat} {t : TypeId} {d : DataW H} {m : Nat}, ts[k]? = some t → l[k]? = some d → m ∈ d.weights P t → m ∈ DataW.weightsEach P ts l
  | t :: ts, x :: l, 0, _, _, m, h1, h2, hm => by
    simp only [List.getElem?_cons_zero, Option.some.injEq] at h1 h2
    subst h1 h2
    rw [DataW.weightsEach]; exact List.mem_append_left _ hm
  | t :: ts, x :: l, k + 1, _, _, m, h1, h2, hm => by
    rw [DataW.weightsEach]
    exact List.mem_append_right _ (weightsEach_mem (k := k) (by simpa using h1) (by simpa using h2) hm)
/-- Every part of a reading weighs at most what the reach allows. -/
def Wt {H : Type} (P : Program) (T : TypeId) (d : DataW H) : Prop := ∀ m ∈ d.weights P T, m ≤ 140737488351232
theorem Wt.field {H : Type} {P : Program} {T : TypeId} {fs : Array Field} {xs : List (DataW H × List MemPlace)} (hT : P.underlying T = some (.struct fs)) (h : Wt P T (.agg (xs.map (·.1)))) {k : Nat} {f : Field} {z : DataW H × List MemPlace} (hf : fs[k]? = some f) (hz : xs[k]? = some z) : Wt P f.type z.1 := fun m hm => by
  refine h m ?_
  rw [DataW.weights]
  simp only [hT]
  exact weightsEach_mem (k := k) (by simp [hf]) (by simp [hz]) hm
theorem Wt.elem {H : Type} {P : Program} {T E : TypeId} {es rest : List (DataW H)} (hT : P.underlying T = some (.slice E)) (h : Wt P T (.slice es rest)) {d : DataW H} (hd : d ∈ es) : Wt P E d := fun m hm => by
  refine h m ?_
  rw [DataW.weights]
  simp only [hT]
  exact List.mem_cons_of_mem _ (List.mem_append_left _ (weightsAll_mem hd hm))
theorem Wt.len {H : Type} {P : Program} {T E : TypeId} {es rest : List (DataW H)} (hT : P.underlying T = some (.slice E)) (h : Wt P T (.slice es rest)) : es.length * P.bytesOf E ≤ 140737488351232 := by
  have := h ((es.length + rest.length) * P.bytesOf E) (by rw [DataW.weights]; simp only [hT]; exact List.mem_cons_self)
  rw [Nat.add_mul] at this
  omega

theorem sl_of_trod_lt {α H : Type} {enc : TypeId × Value → H} {P : Program} {w : World} {sz : Nat} {T E : TypeId} {fuel : Nat} {v : Value} {x : DataW H × List MemPlace} (R : World → List Value → α → Prop)
    (hT : P.underlying T = some (.slice E)) (hE : P.cellsOf E = sz) (hsz : 0 < sz)
    {bytes : Nat} (hby : P.bytesOf E = bytes)
    (hR : ∀ fuel', fuel' < fuel → ∀ cs y, cs.length = sz → Wt P E y.1 → DataW.trod enc P w 0 (fun _ => true) true fuel' E cs = some y → ∃ z, R w cs z)
    (hw : Wt P T x.1) (h : DataW.trod enc P w 0 (fun _ => true) true fuel T [v] = some x) : ∃ xs, Sl R sz w v xs ∧ xs.length * bytes ≤ 140737488351232 := by
  rcases DataW.trod_slice hT h with ⟨hv, _⟩ | ⟨a, len, cap, elems, rest, m, hm, hv, hx, _, hl, hc, hlen, hget, _, _⟩
  · simp at hv; subst hv
    exact ⟨[], ⟨none, 0, rfl, Nat.le_refl _, by simp, fun i hi => absurd hi (by simp)⟩, by simp⟩
  · simp at hv; subst hv
    subst hx
    have hel : ∀ i, i < len → ∃ cs' z, w.cells? 0 (a.add (i * P.cellsOf E)) (P.cellsOf E) = some cs' ∧ DataW.trod enc P w 0 (fun _ => true) true m E cs' = some z ∧ Wt P E z.1 := fun i hi => by
      have h1 := hget i hi
      rw [List.getElem?_eq_getElem (by omega)] at h1
      obtain ⟨cs', e1, e2⟩ := Option.bind_eq_some_iff.1 h1
      exact ⟨cs', _, e1, e2, hw.elem hT (List.mem_map_of_mem (List.getElem_mem _))⟩
    have key : ∀ i, i < len → ∃ z, ∃ cs, cs.length = sz ∧ (∀ (j : Nat) (u : Value), cs[j]? = some u → w.cell? ⟨a.block, a.off + i * sz + j, none⟩ = some u) ∧ a.spot = none ∧ R w cs z := by
      intro i hi
      have h0 : a.spot = none := by
        obtain ⟨cs, _, hcs, _⟩ := hel 0 (by omega)
        obtain ⟨hlen, hcell⟩ := cells_list hcs
        have hne : 0 < cs.length := by omega
        have := hcell 0 cs[0] (List.getElem?_eq_getElem hne)
        simp [Addr.add] at this
        unfold World.cell? at this
        split at this
        · split at this
          · cases this
          · rename_i hsp; simpa using hsp
        · cases this
      obtain ⟨cs, y, hcs, htr, hwt⟩ := hel i (by omega)
      obtain ⟨hlen, hcell⟩ := cells_list hcs
      rw [hE] at hlen
      obtain ⟨z, hz⟩ := hR m (by omega) _ _ hlen hwt htr
      refine ⟨z, cs, hlen, fun j u hj => ?_, h0, hz⟩
      have := hcell j u hj
      rw [hE] at this
      have e : (a.add (i * sz)).add j = ⟨a.block, a.off + i * sz + j, none⟩ := by
        obtain ⟨ab, ao, asp⟩ := a
        simp at h0
        subst h0
        unfold Addr.add
        by_cases hi0 : i * sz = 0 <;> by_cases hj0 : j = 0 <;> simp [hi0, hj0]
      rw [e] at this
      exact this
    obtain ⟨xs, hxl, hxs⟩ := list_of len _ key
    have hle := hw.len hT
    rw [hby, List.length_map, hlen] at hle
    refine ⟨xs, ⟨some a, cap, by rw [hxl], by omega, hc, fun i hi => ?_⟩, by rw [hxl]; exact hle⟩
    obtain ⟨cs, h1, h2, h3, h4⟩ := hxs i hi
    refine ⟨a.block, a.off, cs, ?_, h1, h2, h4⟩
    obtain ⟨ab, ao, asp⟩ := a
    simp at h3
    simp [h3]

/-- A value that can be read. -/
theorem vr_of_trod {H : Type} {enc : TypeId × Value → H} {P : Program} {w : World} {T TK TN TS TI TL : TypeId} {fs : Array Field} (hT : P.underlying T = some (.struct fs)) (hc5 : P.cellsOf T = 5)
    (f0 : ∃ f, fs[0]? = some f ∧ f.type = TK ∧ f.offset = 0) (f1 : ∃ f, fs[1]? = some f ∧ f.type = TN ∧ f.offset = 1) (f2 : ∃ f, fs[2]? = some f ∧ f.type = TS ∧ f.offset = 2) (f3 : ∃ f, fs[3]? = some f ∧ f.type = TI ∧ f.offset = 3) (f4 : ∃ f, fs[4]? = some f ∧ f.type = TL ∧ f.offset = 4)
    (uK : P.underlying TK = some (.int .i64)) (cK : P.cellsOf TK = 1) (uN : P.underlying TN = some (.int .i64)) (cN : P.cellsOf TN = 1) (uS : P.underlying TS = some .string) (cS : P.cellsOf TS = 1)
    (uI : P.underlying TI = some (.slice T)) (cI : P.cellsOf TI = 1) (uL : P.underlying TL = some (.slice TS)) (cL : P.cellsOf TL = 1) (bS : P.bytesOf TS = 16) (bV : P.bytesOf T = 80) :
    ∀ (fuel : Nat) (cs : List Value) (y : DataW H × List MemPlace), cs.length = 5 → Wt P T y.1 → DataW.trod enc P w 0 (fun _ => true) true fuel T cs = some y → ∃ x, VR w cs x := by
  intro fuel
  induction fuel using Nat.strongRecOn with
  | _ fuel ih =>
    intro cs y hl hwt h
    obtain ⟨xs, n, rfl, hy, _, hxl, hf⟩ := DataW.trod_struct hT h
    subst hy
    have fld : ∀ k : Nat, (∃ f : Field, fs[k]? = some f) → ∃ z, xs[k]? = some z := fun k ⟨f, hf'⟩ => by
      have : k < xs.length := by rw [hxl]; exact (Array.getElem?_eq_some_iff.1 hf').1
      exact ⟨xs[k], List.getElem?_eq_getElem this⟩
    obtain ⟨g0, e0, t0, o0⟩ := f0
    obtain ⟨g1, e1, t1, o1⟩ := f1
    obtain ⟨g2, e2, t2, o2⟩ := f2
    obtain ⟨g3, e3, t3, o3⟩ := f3
    obtain ⟨g4, e4, t4, o4⟩ := f4
    obtain ⟨z0, hz0⟩ := fld 0 ⟨_, e0⟩
    obtain ⟨z1, hz1⟩ := fld 1 ⟨_, e1⟩
    obtain ⟨z2, hz2⟩ := fld 2 ⟨_, e2⟩
    obtain ⟨z3, hz3⟩ := fld 3 ⟨_, e3⟩
    obtain ⟨z4, hz4⟩ := fld 4 ⟨_, e4⟩
    have h0 := (hf 0 g0 e0).trans hz0
    have h1 := (hf 1 g1 e1).trans hz1
    have h2 := (hf 2 g2 e2).trans hz2
    have h3 := (hf 3 g3 e3).trans hz3
    have h4 := (hf 4 g4 e4).trans hz4
    have w3 := hwt.field hT e3 hz3
    have w4 := hwt.field hT e4 hz4
    rw [t3] at w3
    rw [t4] at w4
    rw [t0, o0, cK] at h0
    rw [t1, o1, cN] at h1
    rw [t2, o2, cS] at h2
    rw [t3, o3, cI] at h3
    rw [t4, o4, cL] at h4
    obtain ⟨a, c0, wa⟩ := field_int uK h0
    obtain ⟨b, c1, wb⟩ := field_int uN h1
    obtain ⟨s, c2, ws⟩ := field_str uS h2
    rw [cell_of_slice_field (by omega)] at h4
    obtain ⟨ks, hK, hkl⟩ := sl_of_trod_lt StrR uL cS (by omega) bS (fun fuel' _ cs y hl _ h => strR_of_trod uS fuel' cs y hl h) w4 h4
    have c4 : cs[4]? = some cs[4] := List.getElem?_eq_getElem (by omega)
    generalize cs[4] = vL at *
    rw [cell_of_slice_field (by omega)] at h3
    rcases DataW.trod_slice uI h3 with ⟨hv, _⟩ | ⟨ad, len, cap, elems, rest, m, hm, hv, _, _, hlen, hcap, hel, hget, _, _⟩
    · have hv : cs[3] = .slice none 0 0 := by simpa using hv
      have e := list_fit5 hl c0 c1 c2 (show cs[3]? = some (.slice none 0 0) by rw [List.getElem?_eq_getElem (by omega), hv]) c4
      refine ⟨.mk a b s [] ks, ?_⟩
      rw [e]
      exact VR.make (x := .mk a b s [] ks) ⟨none, 0, rfl, Nat.le_refl _, by simp, fun i hi => absurd hi (by simp [Val.items])⟩ hK (bounds_i64 wa) (bounds_i64 wb) ws (by simp only [Val.keys]; omega) (by simp [Val.items])
    · have hv : cs[3] = .slice (some ad) len cap := by simpa using hv
      have hS : ∃ is, Sl VR 5 w (.slice (some ad) len cap) is ∧ is.length * 80 ≤ 140737488351232 := by
        have h3' := h3
        rw [hv] at h3'
        refine sl_of_trod_lt VR uI hc5 (by omega) bV ?_ w3 h3'
        intro fuel' hlt cs' y' hl' hw' h'
        exact ih fuel' (by omega) cs' y' hl' hw' h'
      obtain ⟨is, hS, hsl⟩ := hS
      obtain ⟨r', c', hv', _⟩ := id hS
      simp at hv'
      obtain ⟨rfl, rfl, rfl⟩ := hv'
      have e := list_fit5 hl c0 c1 c2 (show cs[3]? = some (.slice (some ad) is.length cap) by rw [List.getElem?_eq_getElem (by omega), hv]) c4
      refine ⟨.mk a b s is ks, ?_⟩
      rw [e]
      exact VR.make (x := .mk a b s is ks) hS hK (bounds_i64 wa) (bounds_i64 wb) ws (by simp only [Val.keys]; omega) (by simp only [Val.items]; omega)
end Go.Proofs.YtedpdpcibkceeaaDoor
