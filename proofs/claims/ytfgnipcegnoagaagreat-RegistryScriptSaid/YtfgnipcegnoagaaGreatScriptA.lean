/- RegistryScript: a round's switch, and its rest. -/
import Derived.Test.YtfgnipcegnoagaaGreatDuo
import Derived.Test.YtfgnipcegnoagaaGreatPart
import Derived.Deep.RegionHeld3
namespace Go.Proofs.YtfgnipcegnoagaaGreat
open Go.RowKit Go.MapKept

/-- What is behind the switch: 'same' is true; both have gone on. -/
def AftS (w : World) (rb ob b6 n : Nat) (x : Act) (v : Value) (wc : World) : Prop := v = .bool true ∧ ∃ (R : Rg) (S : Rr), Duo w wc rb ob (n + 1) R S [(b6, .cells #[.int .i64 x.kind, .string x.client, .string x.name, .int .i64 x.id] 30)]
theorem nameRes_form (l : List Top) (id : Int) : ∃ s er, nameRes l id = .returned (.tuple #[.string s, .int .i64 er]) := by
  unfold nameRes
  cases byId l id with
  | none => exact ⟨_, _, rfl⟩
  | some t => exact ⟨_, _, rfl⟩
theorem idRes_form (l : List Top) (n : ByteArray) : ∃ i er, idRes l n = .returned (.tuple #[.int .i64 i, .int .i64 er]) := by
  unfold idRes
  cases byName l n with
  | none => exact ⟨_, _, rfl⟩
  | some t => exact ⟨_, _, rfl⟩
theorem fixRes_form (l : List Top) (id : Int) : ∃ b, fixRes l id = .returned (.bool b) := ⟨_, rfl⟩
theorem sameT_yes {w : World} {v1 v2 : Value} {l : List Top} (h1 : RowT w v1 l) (h2 : RowT w v2 l) (hn : l.length ≤ 1000000) : Calls Tryz.prog 21 #[v1, v2] w fun e w' => e = .returned (.bool true) ∧ Fr (fun _ => False) w w' :=
  (sameT_walk w v1 v2 l l h1 h2 hn).mono fun _ _ ⟨he, hf⟩ => ⟨by rw [he, decide_eq_true rfl], hf⟩
theorem sameS_yes {w : World} {v1 v2 : Value} {l : List ByteArray} (h1 : RowS w v1 l) (h2 : RowS w v2 l) (hn : l.length ≤ 1000000) : Calls Tryz.prog 24 #[v1, v2] w fun e w' => e = .returned (.bool true) ∧ Fr (fun _ => False) w w' :=
  (sameS_walk w v1 v2 l l h1 h2 hn).mono fun _ _ ⟨he, hf⟩ => ⟨by rw [he, decide_eq_true rfl], hf⟩
/-- x's cells, behind either call. -/
theorem Half.cells {w0 w : World} {rb ob n b6 : Nat} {R : Rg} {S : Rr} {c : ByteArray} {l : List Top} {g : ByteArray → List Top} {x : Act} (h : Half w0 w rb ob n R S c l g [(b6, .cells #[.int .i64 x.kind, .string x.client, .string x.name, .int .i64 x.id] 30)]) :
    w.cell? ⟨b6, 1, none⟩ = some (.string x.client) ∧ w.cell? ⟨b6, 2, none⟩ = some (.string x.name) ∧ w.cell? ⟨b6, 3, none⟩ = some (.int .i64 x.id) :=
  ⟨rowC (h.prot _ (.head _)).1 1, rowC (h.prot _ (.head _)).1 2, rowC (h.prot _ (.head _)).1 3⟩
theorem Duo.cells {w0 w : World} {rb ob n b6 : Nat} {R : Rg} {S : Rr} {x : Act} (h : Duo w0 w rb ob n R S [(b6, .cells #[.int .i64 x.kind, .string x.client, .string x.name, .int .i64 x.id] 30)]) :
    w.cell? ⟨b6, 1, none⟩ = some (.string x.client) ∧ w.cell? ⟨b6, 2, none⟩ = some (.string x.name) ∧ w.cell? ⟨b6, 3, none⟩ = some (.int .i64 x.id) :=
  ⟨rowC (h.prot _ (.head _)).1 1, rowC (h.prot _ (.head _)).1 2, rowC (h.prot _ (.head _)).1 3⟩

set_option maxRecDepth 1000000 in
set_option maxHeartbeats 8000000 in
theorem script_switch {K : Go.Act → World → Prop} {Q : Exit → Go.Act → World → Prop} {s0 s1 s2 s5 s8 s9 s10 s11 s12 s13 s14 s15 s16 s17 s18 s19 s20 s21 s22 s23 s24 s25 s26 s27 s28 s29 s30 s31 s32 s33 s34 s35 s36 s37 s38 s39 s40 s42 s43 s44 s45 s46 s47 s48 s49 s50 s51 s52 s53 s54 s55 s56 s57 s58 s59 s60 s61 s62 s63 s64 s65 s66 s67 s68 s69 s70 s71 s72 s73 s74 s75 s76 s77 s78 s79 s80 s81 s82 s83 s84 s85 s86 s87 s88 s89 s90 s91 s92 s93 s94 s95 s96 s97 s98 s99 s100 s101 s102 s103 s104 s105 s106 s107 s108 s109 s110 s111 s112 s113 s114 s115 s116 s117 s118 s119 s120 s121 s122 s123 s124 s125 s126 s127 s128 s129 s130 s131 s132 s133 s134 s135 s136 s137 s138 s139 s140 s141 s142 s143 s144 s145 s146 s147 s148 s149 s150 s151 s152 s153 s154 s155 s156 s157 s158 s159 s160 s161 s162 s163 s164 s165 s166 s167 s168 s169 s170 s171 s172 s173 s174 s175 s176 s177 s178 s179 s180 s181 s182 s183 s184 s185 s186 s187 s188 s189 s190 s191 s192 s193 s194 s195 s196 s197 s198 s199 s200 s201 s202 s203 s204 s205 s206 s207 s208 : Value} {q : Int} {w W : World} {rb ob b6 n : Nat} {x : Act} {R : Rg} {S : Rr} (hD : Duo w W rb ob n R S [(b6, .cells #[.int .i64 x.kind, .string x.client, .string x.name, .int .i64 x.id] 30)]) (hn : n ≤ 80) (hsz : x.name.size ≤ 9223372036854775807)
    (hK : ∀ (u7 u8 u9 u10 u11 u12 u13 u42 u43 u44 u45 u46 u47 u48 u49 u50 u51 u52 u53 u54 u55 u56 u57 u58 u59 u60 u61 u62 u63 u64 u65 u66 u67 u68 u69 u70 u71 u72 u73 u74 u75 u76 u77 u78 u79 u80 u81 u82 u83 u84 u85 u86 u87 u88 u89 u90 u91 u92 u93 u94 u95 u96 u97 u98 u99 u100 u101 u102 u103 u104 : Value) (wc : World), AftS w rb ob b6 n x u7 wc → K ⟨#[s0, s1, s2, ptrV rb, ptrV ob, s5, .pointer (some ⟨b6, 0, none⟩), u7, u8, u9, u10, u11, u12, u13, s14, s15, s16, s17, s18, s19, s20, s21, s22, s23, s24, s25, s26, s27, s28, s29, s30, s31, s32, s33, s34, s35, s36, s37, s38, s39, s40, .int .i64 q, u42, u43, u44, u45, u46, u47, u48, u49, u50, u51, u52, u53, u54, u55, u56, u57, u58, u59, u60, u61, u62, u63, u64, u65, u66, u67, u68, u69, u70, u71, u72, u73, u74, u75, u76, u77, u78, u79, u80, u81, u82, u83, u84, u85, u86, u87, u88, u89, u90, u91, u92, u93, u94, u95, u96, u97, u98, u99, u100, u101, u102, u103, u104, s105, s106, s107, s108, s109, s110, s111, s112, s113, s114, s115, s116, s117, s118, s119, s120, s121, s122, s123, s124, s125, s126, s127, s128, s129, s130, s131, s132, s133, s134, s135, s136, s137, s138, s139, s140, s141, s142, s143, s144, s145, s146, s147, s148, s149, s150, s151, s152, s153, s154, s155, s156, s157, s158, s159, s160, s161, s162, s163, s164, s165, s166, s167, s168, s169, s170, s171, s172, s173, s174, s175, s176, s177, s178, s179, s180, s181, s182, s183, s184, s185, s186, s187, s188, s189, s190, s191, s192, s193, s194, s195, s196, s197, s198, s199, s200, s201, s202, s203, s204, s205, s206, s207, s208], []⟩ wc) :
    Code.wp Tryz.prog (partAt Tryz.f3 15) (Exit.then K Q) ⟨#[s0, s1, s2, ptrV rb, ptrV ob, s5, .pointer (some ⟨b6, 0, none⟩), .bool true, s8, s9, s10, s11, s12, s13, s14, s15, s16, s17, s18, s19, s20, s21, s22, s23, s24, s25, s26, s27, s28, s29, s30, s31, s32, s33, s34, s35, s36, s37, s38, s39, s40, .int .i64 q, s42, s43, s44, s45, s46, s47, s48, s49, s50, s51, s52, s53, s54, s55, s56, s57, s58, s59, s60, s61, s62, s63, s64, s65, s66, s67, s68, s69, s70, s71, s72, s73, s74, s75, s76, s77, s78, s79, s80, s81, s82, s83, s84, s85, s86, s87, s88, s89, s90, s91, s92, s93, s94, s95, s96, s97, s98, s99, s100, s101, s102, s103, s104, s105, s106, s107, s108, s109, s110, s111, s112, s113, s114, s115, s116, s117, s118, s119, s120, s121, s122, s123, s124, s125, s126, s127, s128, s129, s130, s131, s132, s133, s134, s135, s136, s137, s138, s139, s140, s141, s142, s143, s144, s145, s146, s147, s148, s149, s150, s151, s152, s153, s154, s155, s156, s157, s158, s159, s160, s161, s162, s163, s164, s165, s166, s167, s168, s169, s170, s171, s172, s173, s174, s175, s176, s177, s178, s179, s180, s181, s182, s183, s184, s185, s186, s187, s188, s189, s190, s191, s192, s193, s194, s195, s196, s197, s198, s199, s200, s201, s202, s203, s204, s205, s206, s207, s208], []⟩ W := by
  conv => arg 2; whnf
  have HK := Lib.hid hK
  clear hK
  have HD := Lib.hid hD
  have Hsz := Lib.hid hsz
  have Hn := Lib.hid hn
  have hcl := hD.cells
  clear hD hsz hn
  by_cases h3 : q = 3
  · subst h3
    go_upto_region 16 with fail
    have D1 := Lib.hid (duo_pre (HD.out.still (w' := W.drew) (Fr.of_heap rfl rfl rfl rfl)) x.client x.name x.id Hsz.out)
    go_region_held3 (fun w' => w'.cell? ⟨b6, 1, none⟩ = some (.string x.client) ∧ w'.cell? ⟨b6, 2, none⟩ = some (.string x.name) ∧ w'.cell? ⟨b6, 3, none⟩ = some (.int .i64 x.id)) (first | go_keep | exact Half.cells (by assumption) | exact Duo.cells (by assumption))
      (first
        | (go_at_call 9; refine D1.out.mono ?_; rintro e w4 ⟨rfl, R4, hH4⟩)
        | (go_at_call 10; refine (half_pre hH4 (by have := Hn.out; omega) x.name x.id Hsz.out rfl).mono ?_; rintro e w5 ⟨rfl, S5, hD5⟩))
    all_goals
      have HD5 := Lib.hid hD5
      clear hH4 hD5
      go_wp2_with fail
      apply HK.out
      exact ⟨by simp, R4, S5, HD5.out⟩
  · by_cases h4 : q = 4
    · subst h4
      go_upto_region 18 with fail
      have D1 := Lib.hid (duo_clear (HD.out.still (w' := W.drew) (Fr.of_heap rfl rfl rfl rfl)) x.client)
      go_region_held3 (fun w' => w'.cell? ⟨b6, 1, none⟩ = some (.string x.client) ∧ w'.cell? ⟨b6, 2, none⟩ = some (.string x.name) ∧ w'.cell? ⟨b6, 3, none⟩ = some (.int .i64 x.id)) (first | go_keep | exact Half.cells (by assumption) | exact Duo.cells (by assumption))
        (first
          | (go_at_call 11; refine D1.out.mono ?_; rintro e w4 ⟨rfl, R4, hH4⟩)
          | (go_at_call 12; refine (half_clear hH4 (by have := Hn.out; omega) rfl).mono ?_; rintro e w5 ⟨rfl, S5, hD5⟩))
      all_goals
        have HD5 := Lib.hid hD5
        clear hH4 hD5
        go_wp2_with fail
        apply HK.out
        exact ⟨by simp, R4, S5, HD5.out⟩
    · have h3' : (q == 3) = false := beq_eq_false_iff_ne.2 h3
      have h4' : (q == 4) = false := beq_eq_false_iff_ne.2 h4
      have c6 := rowC (HD.out.prot _ (.head _)).1
      clear hcl
      go_wp2_with fail
      refine (duo_reg HD.out x.client x.name Hsz.out).mono ?_
      rintro e w4 ⟨rfl, R4, hH4⟩
      have HH4 := Lib.hid hH4
      clear hH4 c6
      have c6 := rowC (HH4.out.prot _ (.head _)).1
      go_wp2_with fail
      refine (half_reg HH4.out (by have := Hn.out; omega) x.name Hsz.out rfl).mono ?_
      rintro e w5 ⟨rfl, S5, hD5⟩
      have HD5 := Lib.hid hD5
      clear hD5 HH4 c6
      generalize (regF (R.get x.client) x.name).id = id at *
      generalize (regF (R.get x.client) x.name).fresh = fr at *
      generalize (regF (R.get x.client) x.name).er = er at *
      go_wp2_with fail
      all_goals
        apply HK.out
        exact ⟨by simp, R4, S5, HD5.out⟩
set_option maxRecDepth 1000000 in
set_option maxHeartbeats 8000000 in
theorem script_tail {K : Go.Act → World → Prop} {Q : Exit → Go.Act → World → Prop} {s0 s1 s2 s5 s8 s9 s10 s11 s12 s13 s14 s15 s16 s17 s18 s19 s20 s21 s22 s23 s24 s25 s26 s27 s28 s29 s30 s31 s32 s33 s34 s35 s36 s37 s38 s39 s40 s41 s42 s43 s44 s45 s46 s47 s48 s49 s50 s51 s52 s53 s54 s55 s56 s57 s58 s59 s60 s61 s62 s63 s64 s65 s66 s67 s68 s69 s70 s71 s72 s73 s74 s75 s76 s77 s78 s79 s80 s81 s82 s83 s84 s85 s86 s87 s88 s89 s90 s91 s92 s93 s94 s95 s96 s97 s98 s99 s100 s101 s102 s103 s104 s105 s106 s107 s108 s109 s110 s111 s112 s113 s114 s115 s116 s117 s118 s119 s120 s121 s122 s123 s124 s125 s126 s127 s128 s129 s130 s131 s132 s133 s134 s135 s136 s137 s138 s139 s140 s141 s142 s143 s144 s145 s146 s147 s148 s149 s150 s151 s152 s153 s154 s155 s156 s157 s158 s159 s160 s161 s162 s163 s164 s165 s166 s167 s168 s169 s170 s171 s172 s173 s174 s175 s176 s177 s178 s179 s180 s181 s182 s183 s184 s185 s186 s187 s188 s189 s190 s191 s192 s193 s194 s195 s196 s197 s198 s199 s200 s201 s202 s203 s204 s205 s206 s207 s208 : Value} {w W : World} {rb ob b6 n : Nat} {x : Act} {R : Rg} {S : Rr} (hD : Duo w W rb ob n R S [(b6, .cells #[.int .i64 x.kind, .string x.client, .string x.name, .int .i64 x.id] 30)]) (hn : n ≤ 81) (hsz : x.name.size ≤ 9223372036854775807)
    (hK : ∀ (u2 u14 u15 u16 u17 u18 u19 u20 u21 u105 u106 u107 u108 u109 u110 u111 u112 u113 u114 u115 u116 u117 u118 u119 u120 u121 u122 u123 u124 u125 u126 u127 u128 u129 u130 u131 u132 u133 u134 u135 u136 u137 u138 u139 u140 u141 u142 u143 u144 u145 u146 u147 u148 u149 u150 u151 u152 u153 u154 u155 u156 u157 u158 u159 u160 u161 u162 u163 u164 u165 u166 u167 u168 u169 u170 u171 u172 u173 u174 u175 u176 u177 u178 u179 u180 u181 u182 u183 u184 u185 u186 u187 u188 u189 u190 u191 u192 u193 u194 u195 u196 u197 u198 u199 u200 u201 u202 u203 u204 u205 u206 u207 u208 : Value) (wc : World), (∃ (R : Rg) (S : Rr), Duo w wc rb ob n R S [(b6, .cells #[.int .i64 x.kind, .string x.client, .string x.name, .int .i64 x.id] 30)]) → K ⟨#[s0, s1, u2, ptrV rb, ptrV ob, s5, .pointer (some ⟨b6, 0, none⟩), .bool true, s8, s9, s10, s11, s12, s13, u14, u15, u16, u17, u18, u19, u20, u21, s22, s23, s24, s25, s26, s27, s28, s29, s30, s31, s32, s33, s34, s35, s36, s37, s38, s39, s40, s41, s42, s43, s44, s45, s46, s47, s48, s49, s50, s51, s52, s53, s54, s55, s56, s57, s58, s59, s60, s61, s62, s63, s64, s65, s66, s67, s68, s69, s70, s71, s72, s73, s74, s75, s76, s77, s78, s79, s80, s81, s82, s83, s84, s85, s86, s87, s88, s89, s90, s91, s92, s93, s94, s95, s96, s97, s98, s99, s100, s101, s102, s103, s104, u105, u106, u107, u108, u109, u110, u111, u112, u113, u114, u115, u116, u117, u118, u119, u120, u121, u122, u123, u124, u125, u126, u127, u128, u129, u130, u131, u132, u133, u134, u135, u136, u137, u138, u139, u140, u141, u142, u143, u144, u145, u146, u147, u148, u149, u150, u151, u152, u153, u154, u155, u156, u157, u158, u159, u160, u161, u162, u163, u164, u165, u166, u167, u168, u169, u170, u171, u172, u173, u174, u175, u176, u177, u178, u179, u180, u181, u182, u183, u184, u185, u186, u187, u188, u189, u190, u191, u192, u193, u194, u195, u196, u197, u198, u199, u200, u201, u202, u203, u204, u205, u206, u207, u208], []⟩ wc) :
    Code.wp Tryz.prog (partAt Tryz.f3 19) (Exit.then K Q) ⟨#[s0, s1, s2, ptrV rb, ptrV ob, s5, .pointer (some ⟨b6, 0, none⟩), .bool true, s8, s9, s10, s11, s12, s13, s14, s15, s16, s17, s18, s19, s20, s21, s22, s23, s24, s25, s26, s27, s28, s29, s30, s31, s32, s33, s34, s35, s36, s37, s38, s39, s40, s41, s42, s43, s44, s45, s46, s47, s48, s49, s50, s51, s52, s53, s54, s55, s56, s57, s58, s59, s60, s61, s62, s63, s64, s65, s66, s67, s68, s69, s70, s71, s72, s73, s74, s75, s76, s77, s78, s79, s80, s81, s82, s83, s84, s85, s86, s87, s88, s89, s90, s91, s92, s93, s94, s95, s96, s97, s98, s99, s100, s101, s102, s103, s104, s105, s106, s107, s108, s109, s110, s111, s112, s113, s114, s115, s116, s117, s118, s119, s120, s121, s122, s123, s124, s125, s126, s127, s128, s129, s130, s131, s132, s133, s134, s135, s136, s137, s138, s139, s140, s141, s142, s143, s144, s145, s146, s147, s148, s149, s150, s151, s152, s153, s154, s155, s156, s157, s158, s159, s160, s161, s162, s163, s164, s165, s166, s167, s168, s169, s170, s171, s172, s173, s174, s175, s176, s177, s178, s179, s180, s181, s182, s183, s184, s185, s186, s187, s188, s189, s190, s191, s192, s193, s194, s195, s196, s197, s198, s199, s200, s201, s202, s203, s204, s205, s206, s207, s208], []⟩ W := by
  conv => arg 2; whnf
  have HK := Lib.hid hK
  clear hK
  have HD := Lib.hid hD
  have Hn := Lib.hid hn
  have hfewc : (srtT (R.get x.client)).length ≤ 1000000 := by rw [srtT_len]; have := hD.few x.client; omega
  have hents : (S.es.map (·.c)).length ≤ 1000000 := by rw [List.length_map]; have := hD.ents; omega
  have Hfewc := Lib.hid hfewc
  have Hents := Lib.hid hents
  have c6 := rowC (hD.prot _ (.head _)).1
  clear hD hsz hn hfewc hents
  obtain ⟨s, er, hnr⟩ := nameRes_form (R.get x.client) x.id
  obtain ⟨i2, er2, hir⟩ := idRes_form (R.get x.client) x.name
  obtain ⟨fb, hfb⟩ := fixRes_form (R.get x.client) x.id
  have Hnr := Lib.hid hnr
  have Hir := Lib.hid hir
  have Hfb := Lib.hid hfb
  clear hnr hir hfb
  -- Name, Name
  have D := duo_name HD.out x.client x.id
  rw [Hnr.out] at D
  go_wp2_with fail
  refine D.mono ?_
  rintro e w1 ⟨rfl, f1⟩
  clear D c6
  have H1 := Lib.hid (HD.out.still f1)
  have c6 := rowC (H1.out.prot _ (.head _)).1
  have D := duo_rname H1.out (by have := Hn.out; omega) x.client x.id
  rw [Hnr.out] at D
  clear f1
  go_wp2_with fail
  refine D.mono ?_
  rintro e w2 ⟨rfl, f2⟩
  clear D c6
  have H2 := Lib.hid (H1.out.still f2)
  have c6 := rowC (H2.out.prot _ (.head _)).1
  have D := duo_id H2.out x.client x.name
  rw [Hir.out] at D
  clear f2
  go_upto_region 22 with (go_at_call 17; refine D.mono ?_; rintro e w' ⟨rfl, rfl⟩)
  clear D
  have D := duo_rid H2.out (by have := Hn.out; omega) x.client x.name
  rw [Hir.out] at D
  go_wp2_with fail
  refine D.mono ?_
  rintro e w3 ⟨rfl, f3⟩
  clear D c6
  have H3 := Lib.hid (H2.out.still f3)
  clear f3
  go_upto_region 23 with fail
  have c6 := H3.out.cells
  have hfx : ∀ W, Duo w W rb ob n R S [(b6, .cells #[.int .i64 x.kind, .string x.client, .string x.name, .int .i64 x.id] 30)] → Calls Tryz.prog 19 #[ptrV rb, .string x.client, .int .i64 x.id] W fun e w' => e = .returned (.bool fb) ∧ W = w' := fun W h => by
    have := duo_fixed h x.client x.id
    rw [Hfb.out] at this
    exact this
  have hrfx : ∀ W, Duo w W rb ob n R S [(b6, .cells #[.int .i64 x.kind, .string x.client, .string x.name, .int .i64 x.id] 30)] → Calls Tryz.prog 20 #[ptrV ob, .string x.client, .int .i64 x.id] W fun e w' => e = .returned (.bool fb) ∧ Fr (fun _ => False) W w' := fun W h => by
    have := duo_rfixed h (by have := Hn.out; omega) x.client x.id
    rw [Hfb.out] at this
    exact this
  have Hfx := Lib.hid hfx
  have Hrfx := Lib.hid hrfx
  clear hfx hrfx
  simp only [List.append_eq, List.cons_append, List.nil_append]
  have E1 := Lib.hid (H3.out.still (w' := w3.drew) (Fr.of_heap rfl rfl rfl rfl))
  go_region_held3 (fun w' => w'.cell? ⟨b6, 1, none⟩ = some (.string x.client) ∧ w'.cell? ⟨b6, 2, none⟩ = some (.string x.name) ∧ w'.cell? ⟨b6, 3, none⟩ = some (.int .i64 x.id)) (first | go_keep | exact Duo.cells (by assumption))
    (first
      | (go_at_call 19; refine (Hfx.out _ E1.out).mono ?_; rintro e w' ⟨rfl, rfl⟩)
      | (go_at_call 20; refine (Hrfx.out _ E1.out).mono ?_; rintro e w4 ⟨rfl, f4⟩; have E4 := E1.out.still f4)
      | (go_at_call 22; refine (duo_topics E4 x.client).mono ?_; rintro e w5 ⟨v1, rfl, r1, f5⟩; have E5 := E4.still f5; have Hr1 := Lib.hid r1)
      | (go_at_call 23; refine (duo_rtopics E5 (by have := Hn.out; omega) x.client).mono ?_; rintro e w6 ⟨v2, rfl, r2, f6⟩; have E6 := E5.still f6; have Hr2 := Lib.hid (And.intro (Hr1.out.kept f6 (fun _ _ h => h)) r2))
      | (go_at_call 21; refine (sameT_yes Hr2.out.1 Hr2.out.2 Hfewc.out).mono ?_; rintro e w7 ⟨rfl, f7⟩; have E7 := E6.still f7)
      | (go_at_call 25; refine (duo_clients E7 (by have := Hn.out; omega)).mono ?_; rintro e w8 ⟨v3, rfl, r3, f8⟩; have E8 := E7.still f8; have Hr3 := Lib.hid r3)
      | (go_at_call 26; refine (duo_rclients E8 (by have := Hn.out; omega)).mono ?_; rintro e w9 ⟨v4, rfl, r4, f9⟩; have E9 := E8.still f9; have Hr4 := Lib.hid (And.intro (Hr3.out.kept f9 (fun _ _ h => h)) r4))
      | (go_at_call 24; refine (sameS_yes Hr4.out.1 Hr4.out.2 Hents.out).mono ?_; rintro e w10 ⟨rfl, f10⟩; have E10 := E9.still f10)
      | (go_at_call 27; refine (duo_len E10 x.client).mono ?_; rintro e w' ⟨rfl, rfl⟩)
      | (go_at_call 28; refine (duo_rlen E10 (by have := Hn.out; omega) x.client).mono ?_; rintro e w11 ⟨rfl, f11⟩; have E11 := E10.still f11))
  all_goals
    have H11 := Lib.hid E11
    clear E11
    go_wp2_with fail
    apply HK.out
    exact ⟨R, S, H11.out⟩
end Go.Proofs.YtfgnipcegnoagaaGreat
