import Derived.Test.YtpnogmicfomofaaGreatDoorYd
import Derived.Deep.DeepCutAuto
/-
  Layer 44: the law's static and has; the end of a round of ActionsDepends. Conditions: those ahead of each theorem.
-/
namespace Go.Proofs.YtpnogmicfomofaaGreatDoor.Stp
open Go.RowKit Go.Sort Go.Lib Go.Maps
open Go.Lib (hid)
open Adr (WT prE stcB rstatic_any)
attribute [local go_sem] frUpon
attribute [local go_sem ↓] ldC_eq
attribute [local go_sem] ldC_run
attribute [local go_sem ↓] stC_eq
attribute [local go_sem] stC_run there_drew there_new there_past put22_drew put22_new put22_past lies_new rd22_new lies_drew rd22_drew lies_drewN rd22_drewN
set_option linter.unusedVariables false
set_option linter.unusedSimpArgs false

set_option maxRecDepth 100000 in
theorem lstatic_any (x : CV) (w : World) (hs : x.ad.size ≤ 100001) : Calls Tryz.prog 20 #[.agg x.arr] w fun e w' => e = .returned (.string (resB x.ad)) ∧ Below w.heap.size w w' := by
  have h0 : x.arr[0]? = some (.string x.ad) := rfl
  have HC := hid (fun (W : World) => rstatic_any x.ad W (by omega))
  have HB0 := hid (show Below w.heap.size w (w.alloc (.cells x.arr 31)) from (Below.refl _ _).alloc (Nat.le_refl _) _)
  have HR := hid (show resB x.ad = if prE x.ad.data.toList = 0 then ⟨(stcB x.ad.data.toList).toArray⟩ else x.ad from rfl)
  obtain ⟨E, hE⟩ : ∃ E, prE x.ad.data.toList = E := ⟨_, rfl⟩
  obtain ⟨T, hT2⟩ : ∃ T, (⟨(stcB x.ad.data.toList).toArray⟩ : ByteArray) = T := ⟨_, rfl⟩
  rw [hT2] at HC HR
  rw [hE] at HC HR
  obtain ⟨R, hR⟩ : ∃ R, resB x.ad = R := ⟨_, rfl⟩
  rw [hR] at HR ⊢
  clear hs hE hT2 hR
  generalize x.arr = X at *
  generalize x.ad = a at *
  by_cases hE : E = 0
  · subst hE
    have hR := HR.out
    rw [if_pos rfl] at hR
    clear HR
    subst hR
    go_enter Tryz.func20, Tryz.ntmps20
    go_wp2_with (go_at_call 37; refine (HC.out _).mono ?_; rintro e w1 ⟨rfl, hb⟩)
    go_ret
    exact ⟨rfl, HB0.out.trans (hb.mono HB0.out.size)⟩
  · have hn : (E != 0) = true := by simp [hE]
    have hR := HR.out
    rw [if_neg hE] at hR
    clear hE HR
    subst hR
    go_enter Tryz.func20, Tryz.ntmps20
    go_wp2_with (go_at_call 37; refine (HC.out _).mono ?_; rintro e w1 ⟨rfl, hb⟩; obtain ⟨hc, hf⟩ := bcellB hb)
    go_ret
    exact ⟨rfl, HB0.out.trans (hb.mono HB0.out.size)⟩
set_option maxHeartbeats 4000000 in
theorem lhas_any (v : Value) (xs : List ByteArray) (s : ByteArray) (w : World) (h : Sl StrR 1 w v xs) : Calls Tryz.prog 19 #[v, .string s] w fun e w' => e = .returned (.bool (inS xs s)) ∧ w' = w := by
  obtain ⟨r, c, rfl, _⟩ := id h
  obtain ⟨_, hl, hm⟩ := sl_len h
  have HE := hid (fun k (hk : k < xs.length) => str_at h k hk)
  clear h
  go_enter Tryz.func19, Tryz.ntmps19
  go_wp2
  go_loopg [5] xs.length (fun gg i wr => ∃ k : Nat, k ≤ xs.length ∧ xs.length - k ≤ gg ∧ i = .int .i64 k ∧ wr = w ∧ Hid (∀ j (hj : j < xs.length), j < k → xs[j] ≠ s))
  case atStart => exact ⟨0, by omega, by omega, rfl, rfl, hid (fun j hj h => absurd h (by omega))⟩
  case round =>
    obtain ⟨k, hk, hgg, rfl, rfl, HA⟩ := hrel
    by_cases hlt : k < xs.length
    · obtain ⟨b, off, rfl, _, g, _⟩ := HE.out k hlt
      by_cases he : xs[k] = s
      · have HT := hid (show inS xs s = true from inS_iff.2 (by rw [← he]; exact List.getElem_mem hlt))
        have he1 : (xs[k].toList == s.toList) = true := by rw [he]; simp
        clear he
        generalize xs[k] = x at *
        go_wp2
        go_ret
        exact ⟨ret_bool HT.out, rfl⟩
      · have HX := hid (show ∀ j (hj : j < xs.length), j < k + 1 → xs[j] ≠ s from fun j hj hjk => by
          by_cases e : j < k
          · exact HA.out j hj e
          · obtain rfl : j = k := by omega
            exact he)
        have he1 : (xs[k].toList == s.toList) = false := str_ne he
        clear he
        generalize xs[k] = x at *
        go_wp2
        go_roundg (xs.length - (k + 1))
        case measure => omega
        case rel => exact ⟨k + 1, by omega, by omega, by go_num, rfl, HX⟩
    · obtain rfl : k = xs.length := by omega
      have HF := hid (inS_take (fun j hj => HA.out j hj hj))
      go_wp2
      go_ret
      exact ⟨ret_bool HF.out, rfl⟩
/-- The code behind the region 22 in a round. -/
def after22 : Code → Option Code
  | .seq (.region 22 _ _) y => some y
  | .seq a b => match after22 a with
    | some c => some c
    | none => after22 b
  | .loop c => after22 c
  | .block _ c => after22 c
  | .scope c => after22 c
  | .cond _ a b => match after22 a with
    | some c => some c
    | none => after22 b
  | _ => none
noncomputable def rest22 : Code := (Tryz.f5.body.bind after22).getD .skip
set_option maxRecDepth 1000000 in
abbrev DR (wc : World) (sb so n c1 M a b bx by3 : Nat) (c_0 c_1 c_2 c_4 c_5 c_6 c_8 c_13 c_14 c_15 c_16 c_17 c_18 c_19 c_20 c_21 c_22 c_23 c_24 c_25 c_26 c_27 c_28 c_29 c_30 c_31 c_32 c_33 c_34 c_35 c_36 c_37 c_38 c_39 c_40 c_41 c_42 c_43 c_44 c_45 c_46 c_47 c_48 c_49 c_50 c_51 c_52 c_53 c_54 c_55 c_56 c_57 c_58 c_59 c_60 c_61 c_62 c_63 c_64 c_65 c_66 c_67 c_68 c_69 c_70 c_71 c_72 c_73 c_74 c_75 c_76 c_77 c_78 c_79 c_80 c_81 c_82 c_83 c_84 c_85 c_86 c_87 c_88 c_89 c_90 c_91 c_92 c_93 c_94 c_95 c_96 c_97 c_98 c_99 c_100 c_101 c_102 c_103 c_104 c_105 c_106 c_107 c_108 c_109 c_110 c_111 c_112 c_113 c_114 c_115 c_116 c_117 c_118 c_119 c_120 c_121 c_122 c_123 c_124 c_125 c_126 c_127 c_128 c_129 c_130 c_131 c_132 c_133 c_134 c_135 c_136 c_137 c_138 c_139 c_140 c_141 c_142 c_143 c_144 c_145 c_146 c_147 c_148 c_149 c_150 c_151 c_152 c_153 c_154 c_155 c_156 c_157 c_158 c_159 c_160 c_161 c_162 c_163 c_164 c_165 c_166 c_167 c_168 c_169 c_170 c_171 c_172 c_173 c_174 c_175 c_176 c_177 c_178 c_179 c_180 c_181 c_182 c_183 c_184 c_185 c_186 c_187 c_188 c_189 c_190 c_191 c_192 c_193 c_194 c_195 c_196 c_197 c_198 c_199 c_200 c_201 c_202 c_203 c_204 c_205 c_206 c_207 c_208 c_209 c_210 c_211 c_212 c_213 c_214 c_215 : Value) (a' : Act) (w' : World) : Prop := ∃ u2 u115 u116 u117 u118 u119 u120 u121 u122 u123 u124 u125 u126 u127 u128 u129 u130 u131 u132 u133 u134 u135 u136 u137 u138 u139 u140 u141 u142 u143 u144 u145 u146 u147 u148 u149 u150 u151 u152 u153 u154 u155 u156 u157 u158 u159 u160 u161 u162 u163 u164 u165 u166 u167 u168 u169 u170 u171 u172 u173 u174 u175 u176 u177 u178 u179 u180 u181 u182 u183 u184 u185 u186 u187 u188 u189 u190 u191 u192 u193 u194 u195 u196 u197 u198 u199 u200 u201 u202 u203 u204 u205 u206 u207 u208 u209 u210 u211 u212 u213 u214 : Value, a' = ⟨#[c_0, c_1, u2, .slice (some ⟨sb, so, none⟩) n c1, c_4, c_5, c_6, .slice (some ⟨M, 0, none⟩) n n, c_8, .int .i64 (b : Nat), .int .i64 (a : Nat), .pointer (some ⟨bx, 0, none⟩), .pointer (some ⟨by3, 0, none⟩), c_13, c_14, c_15, c_16, c_17, c_18, c_19, c_20, c_21, c_22, c_23, c_24, c_25, c_26, c_27, c_28, c_29, c_30, c_31, c_32, c_33, c_34, c_35, c_36, c_37, c_38, c_39, c_40, c_41, c_42, c_43, c_44, c_45, c_46, c_47, c_48, c_49, c_50, c_51, c_52, c_53, c_54, c_55, c_56, c_57, c_58, c_59, c_60, c_61, c_62, c_63, c_64, c_65, c_66, c_67, c_68, c_69, c_70, c_71, c_72, c_73, c_74, c_75, c_76, c_77, c_78, c_79, c_80, c_81, c_82, c_83, c_84, c_85, c_86, c_87, c_88, c_89, c_90, c_91, c_92, c_93, c_94, c_95, c_96, c_97, c_98, c_99, c_100, c_101, c_102, c_103, c_104, c_105, c_106, c_107, c_108, c_109, c_110, c_111, c_112, c_113, c_114, u115, u116, u117, u118, u119, u120, u121, u122, u123, u124, u125, u126, u127, u128, u129, u130, u131, u132, u133, u134, u135, u136, u137, u138, u139, u140, u141, u142, u143, u144, u145, u146, u147, u148, u149, u150, u151, u152, u153, u154, u155, u156, u157, u158, u159, u160, u161, u162, u163, u164, u165, u166, u167, u168, u169, u170, u171, u172, u173, u174, u175, u176, u177, u178, u179, u180, u181, u182, u183, u184, u185, u186, u187, u188, u189, u190, u191, u192, u193, u194, u195, u196, u197, u198, u199, u200, u201, u202, u203, u204, u205, u206, u207, u208, u209, u210, u211, u212, u213, u214, c_215], []⟩ ∧ Hid (Below wc.heap.size wc w')
set_option maxRecDepth 100000 in
set_option maxHeartbeats 80000000 in
theorem dep_rest {Q : Exit → Act → World → Prop} (wc : World) (sb so n c1 M a b bx by3 ia ib pa pb : Nat) (oa ob : Int) (CF I1 I2 : Bool) (X Y : Array Value) (RX RY : ByteArray) (xd yo : SV) (c_0 c_1 c_2 c_4 c_5 c_6 c_8 c_13 c_14 c_15 c_16 c_17 c_18 c_19 c_20 c_21 c_22 c_23 c_24 c_25 c_26 c_27 c_28 c_29 c_30 c_31 c_32 c_33 c_34 c_35 c_36 c_37 c_38 c_39 c_40 c_41 c_42 c_43 c_44 c_45 c_46 c_47 c_48 c_49 c_50 c_51 c_52 c_53 c_54 c_55 c_56 c_57 c_58 c_59 c_60 c_61 c_62 c_63 c_64 c_65 c_66 c_67 c_68 c_69 c_70 c_71 c_72 c_73 c_74 c_75 c_76 c_77 c_78 c_79 c_80 c_81 c_82 c_83 c_84 c_85 c_86 c_87 c_88 c_89 c_90 c_91 c_92 c_93 c_94 c_95 c_96 c_97 c_98 c_99 c_100 c_101 c_102 c_103 c_104 c_105 c_106 c_107 c_108 c_109 c_110 c_111 c_112 c_113 c_114 c_115 c_116 c_117 c_118 c_119 c_120 c_121 c_122 c_123 c_124 c_125 c_126 c_127 c_128 c_129 c_130 c_131 c_132 c_133 c_134 c_135 c_136 c_137 c_138 c_139 c_140 c_141 c_142 c_143 c_144 c_145 c_146 c_147 c_148 c_149 c_150 c_151 c_152 c_153 c_154 c_155 c_156 c_157 c_158 c_159 c_160 c_161 c_162 c_163 c_164 c_165 c_166 c_167 c_168 c_169 c_170 c_171 c_172 c_173 c_174 c_175 c_176 c_177 c_178 c_179 c_180 c_181 c_182 c_183 c_184 c_185 c_186 c_187 c_188 c_189 c_190 c_191 c_192 c_193 c_194 c_195 c_196 c_197 c_198 c_199 c_200 c_201 c_202 c_203 c_204 c_205 c_206 c_207 c_208 c_209 c_210 c_211 c_212 c_213 c_214 c_215 : Value)
    (HF : Hid (∀ W : World, Below wc.heap.size wc W → W.cell? ⟨sb, so + a * 3, none⟩ = some (.int .i64 (ia : Int)) ∧ W.cell? ⟨sb, so + a * 3 + 1, none⟩ = some (.int .i64 oa) ∧ W.cell? ⟨sb, so + b * 3, none⟩ = some (.int .i64 (ib : Int)) ∧ W.cell? ⟨sb, so + b * 3 + 1, none⟩ = some (.int .i64 ob) ∧ W.cell? ⟨M, a, none⟩ = some (.int .i64 (pa : Nat)) ∧ W.cell? ⟨M, b, none⟩ = some (.int .i64 (pb : Nat)) ∧ W.cell? ⟨bx, 17, none⟩ = some (.bool CF) ∧ W.cell? ⟨bx, 20, none⟩ = some (.slice xd.r xd.n xd.c) ∧ W.cell? ⟨by3, 21, none⟩ = some (.slice yo.r yo.n yo.c)))
    (HLX : Hid (∀ W : World, Below wc.heap.size wc W → Lies W bx 0 ∧ rd22 W bx 0 = X)) (HLY : Hid (∀ W : World, Below wc.heap.size wc W → Lies W by3 0 ∧ rd22 W by3 0 = Y))
    (HH1 : Hid (∀ W : World, Below wc.heap.size wc W → Calls Tryz.prog 19 #[.slice xd.r xd.n xd.c, .string RY] W fun e w' => e = .returned (.bool I1) ∧ w' = W))
    (HH2 : Hid (∀ W : World, Below wc.heap.size wc W → Calls Tryz.prog 19 #[.slice yo.r yo.n yo.c, .string RX] W fun e w' => e = .returned (.bool I2) ∧ w' = W))
    (HRX : Hid (∀ W : World, Calls Tryz.prog 20 #[.agg X] W fun e w' => e = .returned (.string RX) ∧ Below W.heap.size W w'))
    (HRY : Hid (∀ W : World, Calls Tryz.prog 20 #[.agg Y] W fun e w' => e = .returned (.string RY) ∧ Below W.heap.size W w'))
    (HD1 : Hid (ia = ib → a ≠ b → oa = 1 → decide (pa < pb) = CF)) (HD2 : Hid (ia ≠ ib → ob ≠ 3 → oa ≠ 3 → I1 = true → pa < pb)) (HD3 : Hid (ia ≠ ib → ob = 3 → oa = 3 → I2 = true → pa < pb))
    (hal : a < n) (hbl : b < n) (h09 : n ≤ 9223372036854775807)
    (HQ : Hid (∀ a' w', DR wc sb so n c1 M a b bx by3 c_0 c_1 c_2 c_4 c_5 c_6 c_8 c_13 c_14 c_15 c_16 c_17 c_18 c_19 c_20 c_21 c_22 c_23 c_24 c_25 c_26 c_27 c_28 c_29 c_30 c_31 c_32 c_33 c_34 c_35 c_36 c_37 c_38 c_39 c_40 c_41 c_42 c_43 c_44 c_45 c_46 c_47 c_48 c_49 c_50 c_51 c_52 c_53 c_54 c_55 c_56 c_57 c_58 c_59 c_60 c_61 c_62 c_63 c_64 c_65 c_66 c_67 c_68 c_69 c_70 c_71 c_72 c_73 c_74 c_75 c_76 c_77 c_78 c_79 c_80 c_81 c_82 c_83 c_84 c_85 c_86 c_87 c_88 c_89 c_90 c_91 c_92 c_93 c_94 c_95 c_96 c_97 c_98 c_99 c_100 c_101 c_102 c_103 c_104 c_105 c_106 c_107 c_108 c_109 c_110 c_111 c_112 c_113 c_114 c_115 c_116 c_117 c_118 c_119 c_120 c_121 c_122 c_123 c_124 c_125 c_126 c_127 c_128 c_129 c_130 c_131 c_132 c_133 c_134 c_135 c_136 c_137 c_138 c_139 c_140 c_141 c_142 c_143 c_144 c_145 c_146 c_147 c_148 c_149 c_150 c_151 c_152 c_153 c_154 c_155 c_156 c_157 c_158 c_159 c_160 c_161 c_162 c_163 c_164 c_165 c_166 c_167 c_168 c_169 c_170 c_171 c_172 c_173 c_174 c_175 c_176 c_177 c_178 c_179 c_180 c_181 c_182 c_183 c_184 c_185 c_186 c_187 c_188 c_189 c_190 c_191 c_192 c_193 c_194 c_195 c_196 c_197 c_198 c_199 c_200 c_201 c_202 c_203 c_204 c_205 c_206 c_207 c_208 c_209 c_210 c_211 c_212 c_213 c_214 c_215 a' w' → Q .normal a' w' ∧ Q (.exit 5) a' w')) :
    Code.wp Tryz.prog rest22 Q ⟨#[c_0, c_1, c_2, .slice (some ⟨sb, so, none⟩) n c1, c_4, c_5, c_6, .slice (some ⟨M, 0, none⟩) n n, c_8, .int .i64 (b : Nat), .int .i64 (a : Nat), .pointer (some ⟨bx, 0, none⟩), .pointer (some ⟨by3, 0, none⟩), c_13, c_14, c_15, c_16, c_17, c_18, c_19, c_20, c_21, c_22, c_23, c_24, c_25, c_26, c_27, c_28, c_29, c_30, c_31, c_32, c_33, c_34, c_35, c_36, c_37, c_38, c_39, c_40, c_41, c_42, c_43, c_44, c_45, c_46, c_47, c_48, c_49, c_50, c_51, c_52, c_53, c_54, c_55, c_56, c_57, c_58, c_59, c_60, c_61, c_62, c_63, c_64, c_65, c_66, c_67, c_68, c_69, c_70, c_71, c_72, c_73, c_74, c_75, c_76, c_77, c_78, c_79, c_80, c_81, c_82, c_83, c_84, c_85, c_86, c_87, c_88, c_89, c_90, c_91, c_92, c_93, c_94, c_95, c_96, c_97, c_98, c_99, c_100, c_101, c_102, c_103, c_104, c_105, c_106, c_107, c_108, c_109, c_110, c_111, c_112, c_113, c_114, c_115, c_116, c_117, c_118, c_119, c_120, c_121, c_122, c_123, c_124, c_125, c_126, c_127, c_128, c_129, c_130, c_131, c_132, c_133, c_134, c_135, c_136, c_137, c_138, c_139, c_140, c_141, c_142, c_143, c_144, c_145, c_146, c_147, c_148, c_149, c_150, c_151, c_152, c_153, c_154, c_155, c_156, c_157, c_158, c_159, c_160, c_161, c_162, c_163, c_164, c_165, c_166, c_167, c_168, c_169, c_170, c_171, c_172, c_173, c_174, c_175, c_176, c_177, c_178, c_179, c_180, c_181, c_182, c_183, c_184, c_185, c_186, c_187, c_188, c_189, c_190, c_191, c_192, c_193, c_194, c_195, c_196, c_197, c_198, c_199, c_200, c_201, c_202, c_203, c_204, c_205, c_206, c_207, c_208, c_209, c_210, c_211, c_212, c_213, c_214, c_215], []⟩ wc := by
  have hai : (a : Int) < (n : Int) := by omega
  have ha0 : (0 : Int) ≤ (a : Int) := by omega
  have hbi : (b : Int) < (n : Int) := by omega
  have hb0 : (0 : Int) ≤ (b : Int) := by omega
  have HBc := hid (Below.refl wc.heap.size wc)
  conv => arg 2; whnf
  go_wp2_with fail
  obtain ⟨f1, f2, f3, f4, f5, f6, f7, f8, f9⟩ := HF.out _ HBc.out
  have c1 := fun d os => cell_regrown f1 d os
  have c2 := fun d os => cell_regrown f2 d os
  have c3 := fun d os => cell_regrown f3 d os
  have c4 := fun d os => cell_regrown f4 d os
  have c5 := fun d os => cell_regrown f5 d os
  have c6 := fun d os => cell_regrown f6 d os
  have c7 := fun d os => cell_regrown f7 d os
  have c8 := fun d os => cell_regrown f8 d os
  have c9 := fun d os => cell_regrown f9 d os
  refine wp_region_fresh (fun _ => none) (by kernel_rfl) (by kernel_rfl) ?_
  iterate 11 (refine wpF_quiet (grw_ex _) (by kernel_rfl) rfl (noEnter_op (by rfl)) ?_; intro K hK; go_big_quiet_op; go_big_quiet_on)
  refine wpF_nil ?_
  intro w61 hw61 hE61
  have hb61 := grw_below hw61
  clear hw61 hE61
  have HBn := hid (HBc.out.trans (hb61.mono HBc.out.size))
  clear hb61 c1 c2 c3 c4 c5 c6 c7 c8 c9 f1 f2 f3 f4 f5 f6 f7 f8 f9 HBc
  have HBc := hid HBn.out
  clear HBn
  by_cases hij : ia = ib
  · subst hij
    go_wp2_with fail
    by_cases hab : a = b
    · subst hab
      obtain ⟨f1, f2, f3, f4, f5, f6, f7, f8, f9⟩ := HF.out _ HBc.out
      go_quiet (fail)
      go_wp2_with fail
      first
        | exact (HQ.out _ _ ⟨_, _, _, _, _, _, _, _, _, _, _, _, _, _, _, _, _, _, _, _, _, _, _, _, _, _, _, _, _, _, _, _, _, _, _, _, _, _, _, _, _, _, _, _, _, _, _, _, _, _, _, _, _, _, _, _, _, _, _, _, _, _, _, _, _, _, _, _, _, _, _, _, _, _, _, _, _, _, _, _, _, _, _, _, _, _, _, _, _, _, _, _, _, _, _, _, _, _, _, _, _, rfl, hid (bel_drewN HBc.out _)⟩).1
        | exact (HQ.out _ _ ⟨_, _, _, _, _, _, _, _, _, _, _, _, _, _, _, _, _, _, _, _, _, _, _, _, _, _, _, _, _, _, _, _, _, _, _, _, _, _, _, _, _, _, _, _, _, _, _, _, _, _, _, _, _, _, _, _, _, _, _, _, _, _, _, _, _, _, _, _, _, _, _, _, _, _, _, _, _, _, _, _, _, _, _, _, _, _, _, _, _, _, _, _, _, _, _, _, _, _, _, _, _, rfl, hid (bel_drewN HBc.out _)⟩).2
    · have e1 : ((a : Int) != (b : Int)) = true := by simp; omega
      by_cases ho : oa = 1
      · subst ho
        have hdd := HD1.out (by first | rfl | trivial) hab (by first | rfl | trivial)
        clear hab
        cases CF with
        | true =>
          have e3 : pa < pb := of_decide_eq_true hdd
          have e2 : ((pa : Nat) : Int) < ((pb : Nat) : Int) := by omega
          clear hdd
          obtain ⟨f1, f2, f3, f4, f5, f6, f7, f8, f9⟩ := HF.out _ HBc.out
          go_quiet (fail)
          go_wp2_with fail
          first
            | exact (HQ.out _ _ ⟨_, _, _, _, _, _, _, _, _, _, _, _, _, _, _, _, _, _, _, _, _, _, _, _, _, _, _, _, _, _, _, _, _, _, _, _, _, _, _, _, _, _, _, _, _, _, _, _, _, _, _, _, _, _, _, _, _, _, _, _, _, _, _, _, _, _, _, _, _, _, _, _, _, _, _, _, _, _, _, _, _, _, _, _, _, _, _, _, _, _, _, _, _, _, _, _, _, _, _, _, _, rfl, hid (bel_drewN HBc.out _)⟩).1
            | exact (HQ.out _ _ ⟨_, _, _, _, _, _, _, _, _, _, _, _, _, _, _, _, _, _, _, _, _, _, _, _, _, _, _, _, _, _, _, _, _, _, _, _, _, _, _, _, _, _, _, _, _, _, _, _, _, _, _, _, _, _, _, _, _, _, _, _, _, _, _, _, _, _, _, _, _, _, _, _, _, _, _, _, _, _, _, _, _, _, _, _, _, _, _, _, _, _, _, _, _, _, _, _, _, _, _, _, _, rfl, hid (bel_drewN HBc.out _)⟩).2
        | false =>
          have e3 : ¬ pa < pb := of_decide_eq_false hdd
          have e2 : ¬ ((pa : Nat) : Int) < ((pb : Nat) : Int) := by omega
          clear hdd
          obtain ⟨f1, f2, f3, f4, f5, f6, f7, f8, f9⟩ := HF.out _ HBc.out
          go_quiet (fail)
          go_wp2_with fail
          first
            | exact (HQ.out _ _ ⟨_, _, _, _, _, _, _, _, _, _, _, _, _, _, _, _, _, _, _, _, _, _, _, _, _, _, _, _, _, _, _, _, _, _, _, _, _, _, _, _, _, _, _, _, _, _, _, _, _, _, _, _, _, _, _, _, _, _, _, _, _, _, _, _, _, _, _, _, _, _, _, _, _, _, _, _, _, _, _, _, _, _, _, _, _, _, _, _, _, _, _, _, _, _, _, _, _, _, _, _, _, rfl, hid (bel_drewN HBc.out _)⟩).1
            | exact (HQ.out _ _ ⟨_, _, _, _, _, _, _, _, _, _, _, _, _, _, _, _, _, _, _, _, _, _, _, _, _, _, _, _, _, _, _, _, _, _, _, _, _, _, _, _, _, _, _, _, _, _, _, _, _, _, _, _, _, _, _, _, _, _, _, _, _, _, _, _, _, _, _, _, _, _, _, _, _, _, _, _, _, _, _, _, _, _, _, _, _, _, _, _, _, _, _, _, _, _, _, _, _, _, _, _, _, rfl, hid (bel_drewN HBc.out _)⟩).2
      · have e2 : (oa == 1) = false := by simpa using ho
        clear ho hab
        obtain ⟨f1, f2, f3, f4, f5, f6, f7, f8, f9⟩ := HF.out _ HBc.out
        go_quiet (fail)
        go_wp2_with fail
        first
          | exact (HQ.out _ _ ⟨_, _, _, _, _, _, _, _, _, _, _, _, _, _, _, _, _, _, _, _, _, _, _, _, _, _, _, _, _, _, _, _, _, _, _, _, _, _, _, _, _, _, _, _, _, _, _, _, _, _, _, _, _, _, _, _, _, _, _, _, _, _, _, _, _, _, _, _, _, _, _, _, _, _, _, _, _, _, _, _, _, _, _, _, _, _, _, _, _, _, _, _, _, _, _, _, _, _, _, _, _, rfl, hid (bel_drewN HBc.out _)⟩).1
          | exact (HQ.out _ _ ⟨_, _, _, _, _, _, _, _, _, _, _, _, _, _, _, _, _, _, _, _, _, _, _, _, _, _, _, _, _, _, _, _, _, _, _, _, _, _, _, _, _, _, _, _, _, _, _, _, _, _, _, _, _, _, _, _, _, _, _, _, _, _, _, _, _, _, _, _, _, _, _, _, _, _, _, _, _, _, _, _, _, _, _, _, _, _, _, _, _, _, _, _, _, _, _, _, _, _, _, _, _, rfl, hid (bel_drewN HBc.out _)⟩).2
  · have e0 : (((ia : Nat) : Int) == ((ib : Nat) : Int)) = false := by rw [ints_eq]; simp [hij]
    have HIJ := hid hij
    clear hij
    go_upto_region 26 with (fail)
    obtain ⟨Wp, hWp⟩ : ∃ W : World, W = w61 := ⟨_, rfl⟩
    go_cut [182] from 115 to 214 (fun s182 wx => s182 = .bool false ∧ Hid (Below wc.heap.size wc wx))
    case first =>
      clear hWp
      by_cases hb3 : ob = 3
      · subst hb3
        obtain ⟨f1, f2, f3, f4, f5, f6, f7, f8, f9⟩ := HF.out _ HBc.out
        go_quiet (fail)
        go_wp2
        go_meet
        exact ⟨rfl, hid (bel_drewN HBc.out _)⟩
      · have e1 : (ob != 3) = true := by simp [hb3]
        have HB3 := hid hb3
        clear hb3
        by_cases ha3 : oa = 3
        · subst ha3
          obtain ⟨f1, f2, f3, f4, f5, f6, f7, f8, f9⟩ := HF.out _ HBc.out
          go_quiet (fail)
          go_wp2
          go_meet
          exact ⟨rfl, hid (bel_drewN HBc.out _)⟩
        · have e3 : (oa != 3) = true := by simp [ha3]
          have HA3 := hid ha3
          clear ha3
          cases I1 with
          | true =>
            have hdd := HD2.out HIJ.out HB3.out HA3.out rfl
            have e4 : ¬ ((pb : Nat) : Int) ≤ ((pa : Nat) : Int) := by omega
            have e5 : ¬ pb ≤ pa := by omega
            clear hdd
            obtain ⟨f1, f2, f3, f4, f5, f6, f7, f8, f9⟩ := HF.out _ HBc.out
            have c1 := fun d os => cell_regrown f1 d os
            have c2 := fun d os => cell_regrown f2 d os
            have c3 := fun d os => cell_regrown f3 d os
            have c4 := fun d os => cell_regrown f4 d os
            have c5 := fun d os => cell_regrown f5 d os
            have c6 := fun d os => cell_regrown f6 d os
            have c7 := fun d os => cell_regrown f7 d os
            have c8 := fun d os => cell_regrown f8 d os
            have c9 := fun d os => cell_regrown f9 d os
            refine wp_region_fresh (fun k => match k with | 17 => some (sVal (.agg Y)) | 18 => some (sVal (.string RY)) | 19 => some (sBool true) | _ => none) (by kernel_rfl) (by kernel_rfl) ?_
            iterate 17 (refine wpF_quiet (grw_ex _) (by kernel_rfl) rfl (noEnter_op (by rfl)) ?_; intro K hK; go_big_quiet_op; go_big_quiet_on)
            refine wpF_told (sVal (.agg Y)) (by kernel_rfl) rfl ⟨_, rfl⟩ stTrue (fun w4 hw4 hE4 => ?_) ?_
            · have hb4 := grw_below hw4
              obtain ⟨l1, l2⟩ := HLY.out w4 (HBc.out.trans (hb4.mono HBc.out.size))
              clear hw4 hE4 hb4
              go_simp
              exact ⟨Lat.refl _, rfl, trivial⟩
            rintro _ rfl
            (refine wpF_put ?_; intro K hK; go_simp; refine hK _ ?_; clear hK K)
            refine wpF_told (sVal (.string RY)) (by kernel_rfl) rfl ⟨_, rfl⟩ stTrue (fun w4 hw4 hE4 => ?_) ?_
            · have hb4 := grw_below hw4
              have hh := HRY.out w4
              clear hw4 hE4 hb4
              go_simp
              go_at_call 20
              refine Calls.mono hh ?_
              rintro e w5 ⟨rfl, hb5⟩
              exact ⟨_, rfl, hb5, rfl, trivial⟩
            rintro _ rfl
            (refine wpF_put ?_; intro K hK; go_simp; refine hK _ ?_; clear hK K)
            refine wpF_told (sBool true) (by kernel_rfl) rfl ⟨_, rfl⟩ stTrue (fun w4 hw4 hE4 => ?_) ?_
            · have hb4 := grw_below hw4
              have hh := HH1.out w4 (HBc.out.trans (hb4.mono HBc.out.size))
              clear hw4 hE4 hb4
              go_simp
              go_at_call 19
              refine Calls.mono hh ?_
              rintro e w5 ⟨rfl, rfl⟩
              exact ⟨_, rfl, Lat.refl _, rfl, trivial⟩
            rintro _ rfl
            (refine wpF_put ?_; intro K hK; go_simp; refine hK _ ?_; clear hK K)
            iterate 12 (refine wpF_quiet (grw_ex _) (by kernel_rfl) rfl (noEnter_op (by rfl)) ?_; intro K hK; go_big_quiet_op; go_big_quiet_on)
            refine wpF_nil ?_
            intro w63 hw63 hE63
            have hb63 := grw_below hw63
            clear hw63 hE63
            have HBn := hid (HBc.out.trans (hb63.mono HBc.out.size))
            clear hb63 c1 c2 c3 c4 c5 c6 c7 c8 c9 f1 f2 f3 f4 f5 f6 f7 f8 f9 HBc
            have HBc := hid HBn.out
            clear HBn
            go_wp2
            go_meet
            exact ⟨rfl, HBc⟩
          | false =>
            obtain ⟨f1, f2, f3, f4, f5, f6, f7, f8, f9⟩ := HF.out _ HBc.out
            have c1 := fun d os => cell_regrown f1 d os
            have c2 := fun d os => cell_regrown f2 d os
            have c3 := fun d os => cell_regrown f3 d os
            have c4 := fun d os => cell_regrown f4 d os
            have c5 := fun d os => cell_regrown f5 d os
            have c6 := fun d os => cell_regrown f6 d os
            have c7 := fun d os => cell_regrown f7 d os
            have c8 := fun d os => cell_regrown f8 d os
            have c9 := fun d os => cell_regrown f9 d os
            refine wp_region_fresh (fun k => match k with | 17 => some (sVal (.agg Y)) | 18 => some (sVal (.string RY)) | 19 => some (sBool false) | _ => none) (by kernel_rfl) (by kernel_rfl) ?_
            iterate 17 (refine wpF_quiet (grw_ex _) (by kernel_rfl) rfl (noEnter_op (by rfl)) ?_; intro K hK; go_big_quiet_op; go_big_quiet_on)
            refine wpF_told (sVal (.agg Y)) (by kernel_rfl) rfl ⟨_, rfl⟩ stTrue (fun w4 hw4 hE4 => ?_) ?_
            · have hb4 := grw_below hw4
              obtain ⟨l1, l2⟩ := HLY.out w4 (HBc.out.trans (hb4.mono HBc.out.size))
              clear hw4 hE4 hb4
              go_simp
              exact ⟨Lat.refl _, rfl, trivial⟩
            rintro _ rfl
            (refine wpF_put ?_; intro K hK; go_simp; refine hK _ ?_; clear hK K)
            refine wpF_told (sVal (.string RY)) (by kernel_rfl) rfl ⟨_, rfl⟩ stTrue (fun w4 hw4 hE4 => ?_) ?_
            · have hb4 := grw_below hw4
              have hh := HRY.out w4
              clear hw4 hE4 hb4
              go_simp
              go_at_call 20
              refine Calls.mono hh ?_
              rintro e w5 ⟨rfl, hb5⟩
              exact ⟨_, rfl, hb5, rfl, trivial⟩
            rintro _ rfl
            (refine wpF_put ?_; intro K hK; go_simp; refine hK _ ?_; clear hK K)
            refine wpF_told (sBool false) (by kernel_rfl) rfl ⟨_, rfl⟩ stTrue (fun w4 hw4 hE4 => ?_) ?_
            · have hb4 := grw_below hw4
              have hh := HH1.out w4 (HBc.out.trans (hb4.mono HBc.out.size))
              clear hw4 hE4 hb4
              go_simp
              go_at_call 19
              refine Calls.mono hh ?_
              rintro e w5 ⟨rfl, rfl⟩
              exact ⟨_, rfl, Lat.refl _, rfl, trivial⟩
            rintro _ rfl
            (refine wpF_put ?_; intro K hK; go_simp; refine hK _ ?_; clear hK K)
            iterate 2 (refine wpF_quiet (grw_ex _) (by kernel_rfl) rfl (noEnter_op (by rfl)) ?_; intro K hK; go_big_quiet_op; go_big_quiet_on)
            iterate 9 (refine wpF_skip (by kernel_rfl) ?_)
            (refine wpF_put ?_; intro K hK; go_simp; refine hK _ ?_; clear hK K)
            (refine wpF_quiet (grw_ex _) (by kernel_rfl) rfl (noEnter_op (by rfl)) ?_; intro K hK; go_big_quiet_op; go_big_quiet_on)
            refine wpF_nil ?_
            intro w63 hw63 hE63
            have hb63 := grw_below hw63
            clear hw63 hE63
            have HBn := hid (HBc.out.trans (hb63.mono HBc.out.size))
            clear hb63 c1 c2 c3 c4 c5 c6 c7 c8 c9 f1 f2 f3 f4 f5 f6 f7 f8 f9 HBc
            have HBc := hid HBn.out
            clear HBn
            go_wp2
            go_meet
            exact ⟨rfl, HBc⟩
    case rest =>
      obtain ⟨rfl, HBn⟩ := hcut
      rename_i wq
      clear HBc hWp
      have HBc := hid HBn.out
      clear HBn
      go_wp2_with fail
      by_cases hb3 : ob = 3
      · subst hb3
        by_cases ha3 : oa = 3
        · subst ha3
          cases I2 with
          | true =>
            have hdd := HD3.out HIJ.out rfl rfl rfl
            have e1 : ¬ ((pb : Nat) : Int) ≤ ((pa : Nat) : Int) := by omega
            have e2 : ¬ pb ≤ pa := by omega
            clear hdd
            obtain ⟨f1, f2, f3, f4, f5, f6, f7, f8, f9⟩ := HF.out _ HBc.out
            have c1 := fun d os => cell_regrown f1 d os
            have c2 := fun d os => cell_regrown f2 d os
            have c3 := fun d os => cell_regrown f3 d os
            have c4 := fun d os => cell_regrown f4 d os
            have c5 := fun d os => cell_regrown f5 d os
            have c6 := fun d os => cell_regrown f6 d os
            have c7 := fun d os => cell_regrown f7 d os
            have c8 := fun d os => cell_regrown f8 d os
            have c9 := fun d os => cell_regrown f9 d os
            refine wp_region_fresh (fun k => match k with | 17 => some (sVal (.agg X)) | 18 => some (sVal (.string RX)) | 19 => some (sBool true) | _ => none) (by kernel_rfl) (by kernel_rfl) ?_
            iterate 17 (refine wpF_quiet (grw_ex _) (by kernel_rfl) rfl (noEnter_op (by rfl)) ?_; intro K hK; go_big_quiet_op; go_big_quiet_on)
            refine wpF_told (sVal (.agg X)) (by kernel_rfl) rfl ⟨_, rfl⟩ stTrue (fun w4 hw4 hE4 => ?_) ?_
            · have hb4 := grw_below hw4
              obtain ⟨l1, l2⟩ := HLX.out w4 (HBc.out.trans (hb4.mono HBc.out.size))
              clear hw4 hE4 hb4
              go_simp
              exact ⟨Lat.refl _, rfl, trivial⟩
            rintro _ rfl
            (refine wpF_put ?_; intro K hK; go_simp; refine hK _ ?_; clear hK K)
            refine wpF_told (sVal (.string RX)) (by kernel_rfl) rfl ⟨_, rfl⟩ stTrue (fun w4 hw4 hE4 => ?_) ?_
            · have hb4 := grw_below hw4
              have hh := HRX.out w4
              clear hw4 hE4 hb4
              go_simp
              go_at_call 20
              refine Calls.mono hh ?_
              rintro e w5 ⟨rfl, hb5⟩
              exact ⟨_, rfl, hb5, rfl, trivial⟩
            rintro _ rfl
            (refine wpF_put ?_; intro K hK; go_simp; refine hK _ ?_; clear hK K)
            refine wpF_told (sBool true) (by kernel_rfl) rfl ⟨_, rfl⟩ stTrue (fun w4 hw4 hE4 => ?_) ?_
            · have hb4 := grw_below hw4
              have hh := HH2.out w4 (HBc.out.trans (hb4.mono HBc.out.size))
              clear hw4 hE4 hb4
              go_simp
              go_at_call 19
              refine Calls.mono hh ?_
              rintro e w5 ⟨rfl, rfl⟩
              exact ⟨_, rfl, Lat.refl _, rfl, trivial⟩
            rintro _ rfl
            (refine wpF_put ?_; intro K hK; go_simp; refine hK _ ?_; clear hK K)
            iterate 12 (refine wpF_quiet (grw_ex _) (by kernel_rfl) rfl (noEnter_op (by rfl)) ?_; intro K hK; go_big_quiet_op; go_big_quiet_on)
            refine wpF_nil ?_
            intro w64 hw64 hE64
            have hb64 := grw_below hw64
            clear hw64 hE64
            have HBn := hid (HBc.out.trans (hb64.mono HBc.out.size))
            clear hb64 c1 c2 c3 c4 c5 c6 c7 c8 c9 f1 f2 f3 f4 f5 f6 f7 f8 f9 HBc
            have HBc := hid HBn.out
            clear HBn
            go_wp2_with fail
            first
              | exact (HQ.out _ _ ⟨_, _, _, _, _, _, _, _, _, _, _, _, _, _, _, _, _, _, _, _, _, _, _, _, _, _, _, _, _, _, _, _, _, _, _, _, _, _, _, _, _, _, _, _, _, _, _, _, _, _, _, _, _, _, _, _, _, _, _, _, _, _, _, _, _, _, _, _, _, _, _, _, _, _, _, _, _, _, _, _, _, _, _, _, _, _, _, _, _, _, _, _, _, _, _, _, _, _, _, _, _, rfl, HBc⟩).1
              | exact (HQ.out _ _ ⟨_, _, _, _, _, _, _, _, _, _, _, _, _, _, _, _, _, _, _, _, _, _, _, _, _, _, _, _, _, _, _, _, _, _, _, _, _, _, _, _, _, _, _, _, _, _, _, _, _, _, _, _, _, _, _, _, _, _, _, _, _, _, _, _, _, _, _, _, _, _, _, _, _, _, _, _, _, _, _, _, _, _, _, _, _, _, _, _, _, _, _, _, _, _, _, _, _, _, _, _, _, rfl, HBc⟩).2
          | false =>
            obtain ⟨f1, f2, f3, f4, f5, f6, f7, f8, f9⟩ := HF.out _ HBc.out
            have c1 := fun d os => cell_regrown f1 d os
            have c2 := fun d os => cell_regrown f2 d os
            have c3 := fun d os => cell_regrown f3 d os
            have c4 := fun d os => cell_regrown f4 d os
            have c5 := fun d os => cell_regrown f5 d os
            have c6 := fun d os => cell_regrown f6 d os
            have c7 := fun d os => cell_regrown f7 d os
            have c8 := fun d os => cell_regrown f8 d os
            have c9 := fun d os => cell_regrown f9 d os
            refine wp_region_fresh (fun k => match k with | 17 => some (sVal (.agg X)) | 18 => some (sVal (.string RX)) | 19 => some (sBool false) | _ => none) (by kernel_rfl) (by kernel_rfl) ?_
            iterate 17 (refine wpF_quiet (grw_ex _) (by kernel_rfl) rfl (noEnter_op (by rfl)) ?_; intro K hK; go_big_quiet_op; go_big_quiet_on)
            refine wpF_told (sVal (.agg X)) (by kernel_rfl) rfl ⟨_, rfl⟩ stTrue (fun w4 hw4 hE4 => ?_) ?_
            · have hb4 := grw_below hw4
              obtain ⟨l1, l2⟩ := HLX.out w4 (HBc.out.trans (hb4.mono HBc.out.size))
              clear hw4 hE4 hb4
              go_simp
              exact ⟨Lat.refl _, rfl, trivial⟩
            rintro _ rfl
            (refine wpF_put ?_; intro K hK; go_simp; refine hK _ ?_; clear hK K)
            refine wpF_told (sVal (.string RX)) (by kernel_rfl) rfl ⟨_, rfl⟩ stTrue (fun w4 hw4 hE4 => ?_) ?_
            · have hb4 := grw_below hw4
              have hh := HRX.out w4
              clear hw4 hE4 hb4
              go_simp
              go_at_call 20
              refine Calls.mono hh ?_
              rintro e w5 ⟨rfl, hb5⟩
              exact ⟨_, rfl, hb5, rfl, trivial⟩
            rintro _ rfl
            (refine wpF_put ?_; intro K hK; go_simp; refine hK _ ?_; clear hK K)
            refine wpF_told (sBool false) (by kernel_rfl) rfl ⟨_, rfl⟩ stTrue (fun w4 hw4 hE4 => ?_) ?_
            · have hb4 := grw_below hw4
              have hh := HH2.out w4 (HBc.out.trans (hb4.mono HBc.out.size))
              clear hw4 hE4 hb4
              go_simp
              go_at_call 19
              refine Calls.mono hh ?_
              rintro e w5 ⟨rfl, rfl⟩
              exact ⟨_, rfl, Lat.refl _, rfl, trivial⟩
            rintro _ rfl
            (refine wpF_put ?_; intro K hK; go_simp; refine hK _ ?_; clear hK K)
            iterate 2 (refine wpF_quiet (grw_ex _) (by kernel_rfl) rfl (noEnter_op (by rfl)) ?_; intro K hK; go_big_quiet_op; go_big_quiet_on)
            iterate 9 (refine wpF_skip (by kernel_rfl) ?_)
            (refine wpF_put ?_; intro K hK; go_simp; refine hK _ ?_; clear hK K)
            (refine wpF_quiet (grw_ex _) (by kernel_rfl) rfl (noEnter_op (by rfl)) ?_; intro K hK; go_big_quiet_op; go_big_quiet_on)
            refine wpF_nil ?_
            intro w64 hw64 hE64
            have hb64 := grw_below hw64
            clear hw64 hE64
            have HBn := hid (HBc.out.trans (hb64.mono HBc.out.size))
            clear hb64 c1 c2 c3 c4 c5 c6 c7 c8 c9 f1 f2 f3 f4 f5 f6 f7 f8 f9 HBc
            have HBc := hid HBn.out
            clear HBn
            go_wp2_with fail
            first
              | exact (HQ.out _ _ ⟨_, _, _, _, _, _, _, _, _, _, _, _, _, _, _, _, _, _, _, _, _, _, _, _, _, _, _, _, _, _, _, _, _, _, _, _, _, _, _, _, _, _, _, _, _, _, _, _, _, _, _, _, _, _, _, _, _, _, _, _, _, _, _, _, _, _, _, _, _, _, _, _, _, _, _, _, _, _, _, _, _, _, _, _, _, _, _, _, _, _, _, _, _, _, _, _, _, _, _, _, _, rfl, HBc⟩).1
              | exact (HQ.out _ _ ⟨_, _, _, _, _, _, _, _, _, _, _, _, _, _, _, _, _, _, _, _, _, _, _, _, _, _, _, _, _, _, _, _, _, _, _, _, _, _, _, _, _, _, _, _, _, _, _, _, _, _, _, _, _, _, _, _, _, _, _, _, _, _, _, _, _, _, _, _, _, _, _, _, _, _, _, _, _, _, _, _, _, _, _, _, _, _, _, _, _, _, _, _, _, _, _, _, _, _, _, _, _, rfl, HBc⟩).2
        · have e1 : (oa == 3) = false := by simpa using ha3
          clear ha3
          obtain ⟨f1, f2, f3, f4, f5, f6, f7, f8, f9⟩ := HF.out _ HBc.out
          go_quiet (fail)
          go_wp2_with fail
          first
            | exact (HQ.out _ _ ⟨_, _, _, _, _, _, _, _, _, _, _, _, _, _, _, _, _, _, _, _, _, _, _, _, _, _, _, _, _, _, _, _, _, _, _, _, _, _, _, _, _, _, _, _, _, _, _, _, _, _, _, _, _, _, _, _, _, _, _, _, _, _, _, _, _, _, _, _, _, _, _, _, _, _, _, _, _, _, _, _, _, _, _, _, _, _, _, _, _, _, _, _, _, _, _, _, _, _, _, _, _, rfl, hid (bel_drewN HBc.out _)⟩).1
            | exact (HQ.out _ _ ⟨_, _, _, _, _, _, _, _, _, _, _, _, _, _, _, _, _, _, _, _, _, _, _, _, _, _, _, _, _, _, _, _, _, _, _, _, _, _, _, _, _, _, _, _, _, _, _, _, _, _, _, _, _, _, _, _, _, _, _, _, _, _, _, _, _, _, _, _, _, _, _, _, _, _, _, _, _, _, _, _, _, _, _, _, _, _, _, _, _, _, _, _, _, _, _, _, _, _, _, _, _, rfl, hid (bel_drewN HBc.out _)⟩).2
      · have e2 : (ob == 3) = false := by simpa using hb3
        clear hb3
        obtain ⟨f1, f2, f3, f4, f5, f6, f7, f8, f9⟩ := HF.out _ HBc.out
        go_quiet (fail)
        go_wp2_with fail
        first
          | exact (HQ.out _ _ ⟨_, _, _, _, _, _, _, _, _, _, _, _, _, _, _, _, _, _, _, _, _, _, _, _, _, _, _, _, _, _, _, _, _, _, _, _, _, _, _, _, _, _, _, _, _, _, _, _, _, _, _, _, _, _, _, _, _, _, _, _, _, _, _, _, _, _, _, _, _, _, _, _, _, _, _, _, _, _, _, _, _, _, _, _, _, _, _, _, _, _, _, _, _, _, _, _, _, _, _, _, _, rfl, hid (bel_drewN HBc.out _)⟩).1
          | exact (HQ.out _ _ ⟨_, _, _, _, _, _, _, _, _, _, _, _, _, _, _, _, _, _, _, _, _, _, _, _, _, _, _, _, _, _, _, _, _, _, _, _, _, _, _, _, _, _, _, _, _, _, _, _, _, _, _, _, _, _, _, _, _, _, _, _, _, _, _, _, _, _, _, _, _, _, _, _, _, _, _, _, _, _, _, _, _, _, _, _, _, _, _, _, _, _, _, _, _, _, _, _, _, _, _, _, _, rfl, hid (bel_drewN HBc.out _)⟩).2
end Go.Proofs.YtpnogmicfomofaaGreatDoor.Stp
