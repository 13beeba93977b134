/- RegistryMaps: the round's switch. -/
import Derived.Test.YtfgnipcegnoagaaMapsB
namespace Go.Proofs.Ytfgnipcegnoagaa
open Go.RowKit Go.MapKept

set_option maxRecDepth 1000000 in
set_option maxHeartbeats 8000000 in
theorem maps_switch {K : Go.Act → World → Prop} {Q : Exit → Go.Act → World → Prop} {s0 s1 s2 s4 s10 s11 s12 s13 s14 s15 s16 s17 s18 s19 s20 s21 s22 s23 s24 s25 s26 s27 s28 s29 s30 s31 s32 s33 s34 s35 s36 s37 s38 s39 s40 s41 s42 s43 s44 s45 s46 s47 s48 s49 s50 s52 s53 s54 s55 s56 s57 s58 s59 s60 s61 s62 s63 s64 s65 s66 s67 s68 s69 s70 s71 s72 s73 s74 s75 s76 s77 s78 s79 s80 s81 s82 s83 s84 s85 s86 s87 s88 s89 s90 s91 s92 s93 s94 s95 s96 s97 s98 s99 s100 s101 s102 s103 s104 s105 s106 s107 s108 s109 s110 s111 s112 s113 s114 s115 s116 s117 s118 s119 s120 s121 s122 s123 s124 s125 s126 s127 s128 s129 s130 s131 s132 s133 s134 s135 s136 s137 s138 s139 s140 s141 s142 s143 s144 s145 s146 s147 s148 s149 s150 s151 s152 s153 s154 s155 s156 s157 s158 s159 s160 s161 s162 s163 s164 s165 s166 s167 s168 s169 s170 s171 s172 s173 s174 s175 s176 s177 s178 s179 s180 s181 s182 s183 s184 s185 s186 s187 s188 s189 s190 s191 s192 s193 s194 s195 s196 s197 s198 s199 s200 s201 s202 s203 s204 s205 s206 s207 s208 s209 s210 s211 s212 s213 s214 s215 s216 s217 s218 s219 s220 s221 s222 s223 s224 s225 s226 s227 s228 s229 s230 s231 s232 s233 s234 s235 s236 s237 s238 s239 s240 s241 s242 s243 s244 s245 s246 s247 s248 s249 s250 s251 s252 s253 : Value} {q : Int} {w W : World} {rb b5 i : Nat} {x : Act} {R : Rg} {cl : Cl} {g0 was away : List Top} {oth : ByteArray} {pw : Option Addr} {cw : Nat} {va : Value} (P : SwPre w W rb b5 x R cl g0 was away oth (.slice pw was.length cw) va i)
    (hK : ∀ (u2 u9 u10 u11 u12 u13 u14 u15 u52 u53 u54 u55 u56 u57 u58 u59 u60 u61 u62 u63 u64 u65 u66 u67 u68 u69 u70 u71 u72 u73 u74 u75 u76 u77 u78 u79 u80 u81 u82 u83 u84 u85 u86 u87 u88 u89 u90 u91 u92 u93 u94 u95 u96 u97 u98 u99 u100 u101 u102 u103 u104 u105 u106 u107 u108 u109 u110 u111 u112 u113 u114 u115 u116 u117 u118 u119 u120 u121 u122 u123 u124 u125 u126 u127 u128 u129 u130 u131 u132 u133 u134 u135 u136 u137 u138 u139 u140 u141 u142 u143 u144 u145 : Value) (wc : World), AftSw w rb [(b5, .cells #[.int .i64 x.kind, .string x.client, .string x.name, .int .i64 x.id] 36)] R x.client g0 was away (.slice pw was.length cw) va i u9 wc → K ⟨#[s0, s1, u2, ptrV rb, s4, .pointer (some ⟨b5, 0, none⟩), .slice pw was.length cw, .string oth, va, u9, u10, u11, u12, u13, u14, u15, s16, s17, s18, s19, s20, s21, s22, s23, s24, s25, s26, s27, s28, s29, s30, s31, s32, s33, s34, s35, s36, s37, s38, s39, s40, s41, s42, s43, s44, s45, s46, s47, s48, s49, s50, .int .i64 q, u52, u53, u54, u55, u56, u57, u58, u59, u60, u61, u62, u63, u64, u65, u66, u67, u68, u69, u70, u71, u72, u73, u74, u75, u76, u77, u78, u79, u80, u81, u82, u83, u84, u85, u86, u87, u88, u89, u90, u91, u92, u93, u94, u95, u96, u97, u98, u99, u100, u101, u102, u103, u104, u105, u106, u107, u108, u109, u110, u111, u112, u113, u114, u115, u116, u117, u118, u119, u120, u121, u122, u123, u124, u125, u126, u127, u128, u129, u130, u131, u132, u133, u134, u135, u136, u137, u138, u139, u140, u141, u142, u143, u144, u145, s146, s147, s148, s149, s150, s151, s152, s153, s154, s155, s156, s157, s158, s159, s160, s161, s162, s163, s164, s165, s166, s167, s168, s169, s170, s171, s172, s173, s174, s175, s176, s177, s178, s179, s180, s181, s182, s183, s184, s185, s186, s187, s188, s189, s190, s191, s192, s193, s194, s195, s196, s197, s198, s199, s200, s201, s202, s203, s204, s205, s206, s207, s208, s209, s210, s211, s212, s213, s214, s215, s216, s217, s218, s219, s220, s221, s222, s223, s224, s225, s226, s227, s228, s229, s230, s231, s232, s233, s234, s235, s236, s237, s238, s239, s240, s241, s242, s243, s244, s245, s246, s247, s248, s249, s250, s251, s252, s253], []⟩ wc) :
    Code.wp Try.prog (partAt Try.f4 29) (Exit.then K Q) ⟨#[s0, s1, s2, ptrV rb, s4, .pointer (some ⟨b5, 0, none⟩), .slice pw was.length cw, .string oth, va, .int .i64 0, s10, s11, s12, s13, s14, s15, s16, s17, s18, s19, s20, s21, s22, s23, s24, s25, s26, s27, s28, s29, s30, s31, s32, s33, s34, s35, s36, s37, s38, s39, s40, s41, s42, s43, s44, s45, s46, s47, s48, s49, s50, .int .i64 q, s52, s53, s54, s55, s56, s57, s58, s59, s60, s61, s62, s63, s64, s65, s66, s67, s68, s69, s70, s71, s72, s73, s74, s75, s76, s77, s78, s79, s80, s81, s82, s83, s84, s85, s86, s87, s88, s89, s90, s91, s92, s93, s94, s95, s96, s97, s98, s99, s100, s101, s102, s103, s104, s105, s106, s107, s108, s109, s110, s111, s112, s113, s114, s115, s116, s117, s118, s119, s120, s121, s122, s123, s124, s125, s126, s127, s128, s129, s130, s131, s132, s133, s134, s135, s136, s137, s138, s139, s140, s141, s142, s143, s144, s145, s146, s147, s148, s149, s150, s151, s152, s153, s154, s155, s156, s157, s158, s159, s160, s161, s162, s163, s164, s165, s166, s167, s168, s169, s170, s171, s172, s173, s174, s175, s176, s177, s178, s179, s180, s181, s182, s183, s184, s185, s186, s187, s188, s189, s190, s191, s192, s193, s194, s195, s196, s197, s198, s199, s200, s201, s202, s203, s204, s205, s206, s207, s208, s209, s210, s211, s212, s213, s214, s215, s216, s217, s218, s219, s220, s221, s222, s223, s224, s225, s226, s227, s228, s229, s230, s231, s232, s233, s234, s235, s236, s237, s238, s239, s240, s241, s242, s243, s244, s245, s246, s247, s248, s249, s250, s251, s252, s253], []⟩ W := by
  conv => arg 2; whnf
  have HK := Lib.hid hK
  clear hK
  have hsz : x.name.size ≤ 9223372036854775807 := by have := P.hx.2; omega
  have Hsz := Lib.hid hsz
  clear hsz
  have c5 := rowC (P.hS.prot _ (.head _)).1
  by_cases h3 : q = 3
  · subst h3
    go_wp2_with fail
    have D := solo_pre P.hS x.client x.name x.id Hsz.out
    rw [← P.hg0] at D
    refine D.mono ?_
    rintro e W4 ⟨rfl, R4, hS4, st4, hg4⟩
    clear D
    have hout := Lib.hid (AftSw.mk (i := i) (g0 := g0) (n := (preF g0 x.name x.id).1) hS4 st4 hg4 P.hw P.ha (preF_err _ _ _) (by have := preF_len g0 x.name x.id; have := P.wasl.2; omega))
    clear hS4 st4 hg4
    go_wp2_with fail
    apply HK.out
    exact hout.out
  · by_cases h4 : q = 4
    · subst h4
      go_wp2_with fail
      have D := solo_clear P.hS x.client
      rw [← P.hg0] at D
      refine D.mono ?_
      rintro e W4 ⟨rfl, R4, hS4, st4, hg4⟩
      clear D c5
      have c5 := rowC (hS4.prot _ (.head _)).1
      have hln := solo_len hS4 x.client
      have e1 : R4.get x.client = (clearF g0).2 := by rw [hg4]; unfold upd; rw [if_pos rfl]
      rw [e1] at hln
      have hsum := clearF_sum g0
      have hle := clearF_len g0
      have hwg : was.length = g0.length := by rw [P.hwas, srtT_len]
      have hg80 : g0.length ≤ 80 := by have := P.wasl.2; have := P.hi; omega
      have hout := Lib.hid (AftSw.mk (i := i) (g0 := g0) (n := 0) hS4 st4 hg4 P.hw P.ha (fun h => absurd rfl h) (by have := P.wasl.2; omega))
      clear hS4 st4 hg4 e1
      generalize (clearF g0).1 = n1 at *
      generalize (clearF g0).2.length = m1 at *
      have hb1 : ((n1 + (m1 : Int)) != (was.length : Int)) = false := by rw [bne_eq_false_iff_eq]; omega
      have hn1 : 0 ≤ n1 := by omega
      have hn2 : n1 ≤ 100 := by omega
      have hm2 : m1 ≤ 100 := by omega
      clear hsum hle hwg hg80
      go_wp2_with (go_at_call 13; refine hln.mono ?_; rintro e w' ⟨rfl, rfl⟩)
      apply HK.out
      exact hout.out
    · have h3' : (q == 3) = false := beq_eq_false_iff_ne.2 h3
      have h4' : (q == 4) = false := beq_eq_false_iff_ne.2 h4
      go_upto_if 131 with fail
      refine wp_asThen (maps_reg P ?_)
      intro u2 u9 u11 u12 u13 u14 u15 u52 u53 u54 u55 u56 u57 u58 u59 u60 u61 u62 u63 u64 u65 u66 u67 u68 u69 u70 u71 u72 u73 u74 u75 u76 u77 u78 u79 u80 u81 u82 u83 u84 u85 u86 u87 u88 u89 u90 u91 u92 u93 u94 u95 u96 u97 u98 u99 u100 u101 u102 u103 u104 u105 u106 u107 u108 u109 u110 u111 u112 u113 u114 u115 u116 u117 u118 u119 u120 wc h
      exact HK.out _ _ _ _ _ _ _ _ _ _ _ _ _ _ _ _ _ _ _ _ _ _ _ _ _ _ _ _ _ _ _ _ _ _ _ _ _ _ _ _ _ _ _ _ _ _ _ _ _ _ _ _ _ _ _ _ _ _ _ _ _ _ _ _ _ _ _ _ _ _ _ _ _ _ _ _ _ _ _ _ _ _ _ _ _ _ _ _ _ _ _ _ _ _ _ _ _ _ _ _ _ _ wc h
end Go.Proofs.Ytfgnipcegnoagaa
