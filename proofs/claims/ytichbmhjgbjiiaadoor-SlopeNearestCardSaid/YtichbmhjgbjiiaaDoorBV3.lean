/- The texts that the row uses, part 3. -/
import Derived.Test.YtichbmhjgbjiiaaDoorBV2
set_option linter.unusedVariables false
set_option linter.unusedSimpArgs false
set_option maxHeartbeats 32000000
set_option maxRecDepth 100000
namespace Go.Abs
def c60r0:List Seg:=[zo 6 (.mv (.c (.int .i64 (-1))))]
def c60k0:=kk 29 [] c60r0
def c60s1:ICode:=(.seq c60k0 .ret)
def c60r3:List Seg:=[zm 13 7,zo 14 (.bin .add 13 (ci 1)),zm 7 14]
def c60k3:=kk 29 Qg c60r3
def c60r4:List Seg:=[zm 28 7,zm 6 28]
def c60k4:=kk 29 [7] c60r4
def c60s5:ICode:=(.cond (.t 27) (.seq c60k4 .ret) .skip)
def c60r6:List Seg:=[zo 15 (.fieldA 1 3),zo 16 (.load1 15),zm 17 7,zo 18 (.idxS 2 16 17),zo 19 (.loadN 2 18),zm 20 1,zm 21 2,zo 22 (.mn [20,21]),zm 23 1,zm 24 2,zo 25 (.mx [23,24]),zo 26 (.mkagg [.int .i64 0,.int .i64 0] [(0,1,22),(1,1,25)]),zo 27 (.eqv false (.ints 2) 19 26)]
def c60k6:=kk 29 Qg c60r6
def c60s7:ICode:=(.seq (.block 1 (.seq c60k6 c60s5)) c60k3)
def c60s8:ICode:=(.cond (.t 12) .skip (.exit 0))
def c60r9:List Seg:=[zm 8 7,zo 9 (.fieldA 1 3),zo 10 (.load1 9),zo 11 (.len 0 10),zo 12 (.bin .lss 8 11)]
def c60k9:=kk 29 Qg c60r9
def c60l2:ICode:=(.seq (.seq c60k9 c60s8) c60s7)
def c60s10:ICode:=(.block 0 (.loop c60l2))
def c60r11:List Seg:=[zo 7 (.mv (ci 0))]
def c60k11:=kk 29 FM c60r11
def c60s12:ICode:=(.seq (.seq c60k11 c60s10) c60s1)
def c60r13:List Seg:=[zo 3 (.box 0),zo 6 (.mv (ci 0))]
def c60k13:=kk 29 qq1 c60r13
def c60b:ICode:=(.seq c60k13 c60s12)
def c60:IFn:=⟨29,[.t 6],c60b⟩
def h60:List (Nat×Nat×List Nat):=[(0,(29,qq1)),(1,(29,FM)),(2,(29,Qg)),(4,(29,Qg)),(5,(29,[7])),(3,(29,Qg)),(6,(29,[]))]
def c61r0:List Seg:=[zo 4 (.mv (.c (.bool false)))]
def c61k0:=kk 39 [] c61r0
def c61s1:ICode:=(.seq c61k0 .ret)
def c61r3:List Seg:=[zm 14 5,zo 15 (.bin .add 14 (ci 1)),zm 5 15]
def c61k3:=kk 39 Cw c61r3
def c61r4:List Seg:=[zo 4 (.mv (.c (.bool true)))]
def c61k4:=kk 39 [] c61r4
def c61s5:ICode:=(.cond (.t 38) (.seq c61k4 .ret) .skip)
def c61r6:List Seg:=[.grp [(zn 16 0,0),(zn 17 5,0),(zp 18 (.idxS 3 16 17),3),(zp 19 (.idxA 3 1 18 (ci 0)),7),(zp 20 (.load1 19),15),(zn 21 0,0),(zn 22 5,0),(zp 23 (.idxS 3 21 22),96),(zp 24 (.idxA 3 1 23 (ci 1)),224),(zp 25 (.load1 24),480),(zp 26 (.bin .add 20 25),1023),(zn 27 0,0),(zn 28 5,0),(zp 29 (.idxS 3 27 28),6144),(zp 30 (.idxA 3 1 29 (ci 2)),14336),(zp 31 (.load1 30),30720),(zp 32 (.bin .add 26 31),65535),(zp 33 (.conv .u64 32),131071),(zp 34 (.bin .rem 33 (.c (.int .u64 4))),262143),(zn 35 1,0),(zp 36 (.conv .u64 35),524288),(zp 37 (.bin .rem 36 (.c (.int .u64 4))),1572864)],zo 38 (.bin .eql 34 37)]
def c61k6:=kk 39 Cw c61r6
def c61s7:ICode:=(.seq (.block 1 (.seq c61k6 c61s5)) c61k3)
def c61s8:ICode:=(.cond (.t 13) .skip (.exit 0))
def c61r9:List Seg:=[zm 6 5,zm 7 0,zo 8 (.len 0 7),zo 9 (.bin .lss 6 8),zm 10 9,.one ⟨some 11,.mv 5,some (10,true)⟩,.one ⟨some 12,.bin .lss 11 (ci 10),some (10,true)⟩,zo 13 (.pick 10 12 (.c (.bool false)))]
def c61k9:=kk 39 Cw c61r9
def c61l2:ICode:=(.seq (.seq c61k9 c61s8) c61s7)
def c61s10:ICode:=(.block 0 (.loop c61l2))
def c61r11:List Seg:=[zo 5 (.mv (ci 0))]
def c61k11:=kk 39 Az c61r11
def c61s12:ICode:=(.seq (.seq c61k11 c61s10) c61s1)
def c61r13:List Seg:=[zo 4 (.mv (.c (.bool false)))]
def c61k13:=kk 39 Az c61r13
def c61b:ICode:=(.seq c61k13 c61s12)
def c61:IFn:=⟨39,[.t 4],c61b⟩
def h61:List (Nat×Nat×List Nat):=[(0,(39,Az)),(1,(39,Az)),(2,(39,Cw)),(4,(39,Cw)),(5,(39,[])),(3,(39,Cw)),(6,(39,[]))]
def c62r0:List Seg:=[zo 5 (.mkfn 93 [2,3]),zm 4 5]
def c62k0:=kk 6 QU c62r0
def c62s1:ICode:=(.seq c62k0 .ret)
def c62r2:List Seg:=[zo 2 (.box 0),zo 3 (.box 1),zo 4 (.mv (.c .nilfunc))]
def c62k2:=kk 6 Az c62r2
def c62b:ICode:=(.seq c62k2 c62s1)
def c62:IFn:=⟨6,[.t 4],c62b⟩
def h62:List (Nat×Nat×List Nat):=[(0,(6,Az)),(1,(6,QU))]
def c63r0:List Seg:=[zm 3 0,zo 4 (.mkagg [.int .i64 0,.int .i64 0] [(0,1,3),(1,1,(ci 1))]),.one ⟨none,.storeN 2 2 4,none⟩]
def c63k0:=kk 5 Ab8 c63r0
def c63s1:ICode:=(.seq c63k0 .ret)
def c63r2:List Seg:=[zo 2 (.box (.c (.agg [.int .i64 0,.int .i64 0])))]
def c63k2:=kk 5 [0] c63r2
def c63b:ICode:=(.seq c63k2 c63s1)
def c63:IFn:=⟨5,[.cellN 2 2],c63b⟩
def h63:List (Nat×Nat×List Nat):=[(0,(5,[0])),(1,(5,Ab8))]
def c64r1:List Seg:=[zm 147 7,zm 6 147]
def c64k1:=kk 148 [7] c64r1
def c64s2:ICode:=(.seq c64k1 .ret)
def c64r4:List Seg:=[zo 146 (.bin .add 32 (ci 1)),zm 32 146]
def c64k4:=kk 148 LW c64r4
def c64r5:List Seg:=[zm 144 9,zo 145 (.bin .add 144 (ci 1)),zm 9 145]
def c64k5:=kk 148 LW c64r5
def c64r6:List Seg:=[zm 140 7,zm 141 9,zm 142 10,zo 143 (.idxS 1 140 141),.one ⟨none,.store1 143 142,none⟩]
def c64k6:=kk 148 Qv c64r6
def c64s7:ICode:=(.seq c64k6 c64k5)
def c64r9:List Seg:=[zo 139 (.bin .add 97 (ci 1)),zm 97 139]
def c64k9:=kk 148 P7 c64r9
def c64r11:List Seg:=[zo 138 (.bin .add 119 (ci 1)),zm 119 138]
def c64k11:=kk 148 P5 c64r11
def c64r12:List Seg:=[.grp [(zn 122 16,0),(zn 123 18,0),(zn 124 16,0),(zn 125 18,0),(zp 126 (.idxS 2 124 125),12),(zp 127 (.loadN 2 126),28),(zp 128 (.mkif 86 127),60),(zn 129 12,0),(zn 130 18,0),(zp 131 (.idxS 2 129 130),384),(zp 132 (.loadN 2 131),896),(zp 133 (.mkif 86 132),1920),(zp 134 (.loadN 2 17),0),(zp 135 (.call [(86,99)] 133 [134]),8064),(zp 136 (.call [(86,95)] 128 [135]),16380)],zo 137 (.idxS 2 122 123),.one ⟨none,.storeN 2 137 136,none⟩]
def c64k12:=kk 148 AaJ c64r12
def c64r13:List Seg:=[zm 121 119,zm 18 121]
def c64k13:=kk 148 P5 c64r13
def c64s14:ICode:=(.seq (.block 11 (.seq c64k13 c64k12)) c64k11)
def c64s15:ICode:=(.seq (.cond (.t 120) .skip (.exit 10)) c64s14)
def c64r16:List Seg:=[zo 120 (.bin .lss 119 118)]
def c64k16:=kk 148 P5 c64r16
def c64l10:ICode:=(.seq c64k16 c64s15)
def c64s17:ICode:=(.block 10 (.loop c64l10))
def c64r18:List Seg:=[zm 117 16,zo 118 (.len 0 117),zo 119 (.mv (ci 0))]
def c64k18:=kk 148 ZY c64r18
def c64s19:ICode:=(.seq c64k18 c64s17)
def c64r20:List Seg:=[zm 113 16,zm 114 10,zo 115 (.idxS 2 113 114),zo 116 (.loadN 2 115),zo 17 (.box (.c (.agg [.int .i64 0,.int .i64 0]))),.one ⟨none,.storeN 2 17 116,none⟩]
def c64k20:=kk 148 Aau c64r20
def c64s21:ICode:=(.seq c64k20 c64s19)
def c64s22:ICode:=(.cond (.t 112) (.exit 9) .skip)
def c64r23:List Seg:=[.grp [(zn 102 15,0),(zn 103 9,0)],zo 104 (.bin .eql 102 103),zm 105 104,.grp [(⟨some 106,.mv 16,some (105,false)⟩,0),(⟨some 107,.mv 10,some (105,false)⟩,0),(⟨some 108,.idxS 2 106 107,some (105,false)⟩,3),(⟨some 109,.loadN 2 108,some (105,false)⟩,7),(⟨some 110,.loadN 2 5,some (105,false)⟩,0)],.one ⟨some 111,.eqv false (.ints 2) 109 110,some (105,false)⟩,zo 112 (.pick 105 (.c (.bool true)) 111)]
def c64k23:=kk 148 AbD c64r23
def c64s24:ICode:=(.seq (.seq c64k23 c64s22) c64s21)
def c64r25:List Seg:=[zm 99 97,zo 100 (.idxS 1 95 97),zo 101 (.load1 100),zm 15 99,zm 16 101]
def c64k25:=kk 148 P7 c64r25
def c64s26:ICode:=(.seq (.block 9 (.seq c64k25 c64s24)) c64k9)
def c64s27:ICode:=(.seq (.cond (.t 98) .skip (.exit 8)) c64s26)
def c64r28:List Seg:=[zo 98 (.bin .lss 97 96)]
def c64k28:=kk 148 P7 c64r28
def c64l8:ICode:=(.seq c64k28 c64s27)
def c64s29:ICode:=(.block 8 (.loop c64l8))
def c64r30:List Seg:=[zm 95 0,zo 96 (.len 0 95),zo 97 (.mv (ci 0))]
def c64k30:=kk 148 Wl c64r30
def c64s31:ICode:=(.seq (.seq c64k30 c64s29) c64s7)
def c64r33:List Seg:=[zo 94 (.bin .add 81 (ci 1)),zm 81 94]
def c64k33:=kk 148 Qk c64r33
def c64r34:List Seg:=[.grp [(zn 84 12,0),(zn 85 14,0),(zn 86 12,0),(zn 87 14,0),(zp 88 (.idxS 2 86 87),12),(zp 89 (.loadN 2 88),28),(zp 90 (.mkif 86 89),60),(zp 91 (.loadN 2 13),0),(zp 92 (.call [(86,123)] 90 [91]),252)],zo 93 (.idxS 2 84 85),.one ⟨none,.storeN 2 93 92,none⟩]
def c64k34:=kk 148 Aav c64r34
def c64r35:List Seg:=[zm 83 81,zm 14 83]
def c64k35:=kk 148 Qk c64r35
def c64s36:ICode:=(.seq (.block 7 (.seq c64k35 c64k34)) c64k33)
def c64s37:ICode:=(.seq (.cond (.t 82) .skip (.exit 6)) c64s36)
def c64r38:List Seg:=[zo 82 (.bin .lss 81 80)]
def c64k38:=kk 148 Qk c64r38
def c64l32:ICode:=(.seq c64k38 c64s37)
def c64s39:ICode:=(.block 6 (.loop c64l32))
def c64r40:List Seg:=[zm 79 12,zo 80 (.len 0 79),zo 81 (.mv (ci 0))]
def c64k40:=kk 148 AbA c64r40
def c64s41:ICode:=(.seq (.seq c64k40 c64s39) c64s31)
def c64r42:List Seg:=[zm 75 12,zm 76 10,zo 77 (.idxS 2 75 76),zo 78 (.loadN 2 77),zo 13 (.box (.c (.agg [.int .i64 0,.int .i64 0]))),.one ⟨none,.storeN 2 13 78,none⟩]
def c64k42:=kk 148 Wl c64r42
def c64s43:ICode:=(.seq c64k42 c64s41)
def c64r44:List Seg:=[zm 71 0,zm 72 9,zo 73 (.idxS 1 71 72),zo 74 (.load1 73),zm 12 74]
def c64k44:=kk 148 Qv c64r44
def c64s45:ICode:=(.seq c64k44 c64s43)
def c64r46:List Seg:=[.grpw (.t 69) (.t 64) none 8179 [(zn 57 0,0),(zn 58 9,0),(zn 59 0,0),(zn 60 11,0),(zn 61 0,0),(zn 62 11,0),(zp 63 (.idxS 1 (.t 61) (.t 62)),48),(zp 64 (.load1 (.t 63)),112),(zn 65 0,0),(zn 66 9,0),(zp 67 (.idxS 1 (.t 65) (.t 66)),768),(zp 68 (.load1 (.t 67)),1792),(zp 69 (.idxS 1 (.t 57) (.t 58)),4083),(⟨none,.lenc 0,none⟩,8179)],zo 70 (.idxS 1 (.t 59) (.t 60)),.one ⟨none,.store1 (.t 70) (.t 68),none⟩]
def c64k46:ICode:=.kill 148 M9 (.ops c64r46)
def c64s47:ICode:=(.seq c64k46 c64s45)
def c64s48:ICode:=(.cond (.t 56) (.exit 3) .skip)
def c64r49:List Seg:=[zm 53 11,zm 54 0,zo 55 (.len 0 54),zo 56 (.bin .eql 53 55)]
def c64k49:=kk 148 M9 c64r49
def c64s50:ICode:=(.seq (.seq c64k49 c64s48) c64s47)
def c64r52:List Seg:=[zm 51 11,zo 52 (.bin .add 51 (ci 1)),zm 11 52]
def c64k52:=kk 148 M9 c64r52
def c64s53:ICode:=(.block 5 c64k52)
def c64s54:ICode:=(.cond (.t 50) .skip (.exit 4))
def c64r55:List Seg:=[.grp [(zn 36 11,0),(zn 37 0,0),(zp 38 (.len 0 37),2)],zo 39 (.bin .lss 36 38),zm 40 39,.grp [(⟨some 41,.mv 0,some (40,true)⟩,0),(⟨some 42,.mv 11,some (40,true)⟩,0),(⟨some 43,.idxS 1 41 42,some (40,true)⟩,3),(⟨some 44,.load1 43,some (40,true)⟩,7),(⟨some 45,.mv 10,some (40,true)⟩,0),(⟨some 46,.idxS 2 44 45,some (40,true)⟩,31),(⟨some 47,.loadN 2 46,some (40,true)⟩,63),(⟨some 48,.loadN 2 5,some (40,true)⟩,0)],.one ⟨some 49,.eqv false (.ints 2) 47 48,some (40,true)⟩,zo 50 (.pick 40 49 (.c (.bool false)))]
def c64k55:=kk 148 M9 c64r55
def c64l51:ICode:=(.seq (.seq c64k55 c64s54) c64s53)
def c64s56:ICode:=(.seq (.block 4 (.loop c64l51)) c64s50)
def c64r57:List Seg:=[zm 35 9,zm 11 35]
def c64k57:=kk 148 Qv c64r57
def c64s58:ICode:=(.seq c64k57 c64s56)
def c64r59:List Seg:=[zm 34 32,zm 10 34]
def c64k59:=kk 148 LW c64r59
def c64s60:ICode:=(.seq (.block 3 (.seq c64k59 c64s58)) c64k4)
def c64s61:ICode:=(.seq (.cond (.t 33) .skip (.exit 2)) c64s60)
def c64r62:List Seg:=[zo 33 (.bin .lss 32 31)]
def c64k62:=kk 148 LW c64r62
def c64l3:ICode:=(.seq c64k62 c64s61)
def c64s63:ICode:=(.block 2 (.loop c64l3))
def c64r64:List Seg:=[zm 31 1,zo 32 (.mv (ci 0))]
def c64k64:=kk 148 Aaa c64r64
def c64s65:ICode:=(.seq (.seq c64k64 c64s63) c64s2)
def c64s66:ICode:=(.seq .skip c64s65)
def c64r67:List Seg:=[zo 9 (.mv (ci 0))]
def c64k67:=kk 148 Wo c64r67
def c64s68:ICode:=(.seq c64k67 c64s66)
def c64r70:List Seg:=[zo 30 (.bin .add 24 (ci 1)),zm 24 30]
def c64k70:=kk 148 Qd c64r70
def c64r71:List Seg:=[zm 27 7,zm 28 8,zo 29 (.idxS 1 27 28),.one ⟨none,.store1 29 (.c (.int .i64 (-1))),none⟩]
def c64k71:=kk 148 Abd c64r71
def c64r72:List Seg:=[zm 26 24,zm 8 26]
def c64k72:=kk 148 Qd c64r72
def c64s73:ICode:=(.seq (.block 1 (.seq c64k72 c64k71)) c64k70)
def c64s74:ICode:=(.seq (.cond (.t 25) .skip (.exit 0)) c64s73)
def c64r75:List Seg:=[zo 25 (.bin .lss 24 23)]
def c64k75:=kk 148 Qd c64r75
def c64l69:ICode:=(.seq c64k75 c64s74)
def c64s76:ICode:=(.block 0 (.loop c64l69))
def c64r77:List Seg:=[zm 22 7,zo 23 (.len 0 22),zo 24 (.mv (ci 0))]
def c64k77:=kk 148 Wo c64r77
def c64s78:ICode:=(.seq (.seq c64k77 c64s76) c64s68)
def c64r79:List Seg:=[zm 19 0,zo 20 (.len 0 19),zo 21 (.make [.int .i64 0] 8 20 20),zm 7 21]
def c64k79:=kk 148 Cw c64r79
def c64p0:ICode:=(.seq c64k79 c64s78)
def c64s80:ICode:=(.scope c64p0)
def c64r81:List Seg:=[zo 5 (.box 2),zo 6 (.mv (.c .nilslice))]
def c64k81:=kk 148 qq1 c64r81
def c64b:ICode:=(.seq c64k81 c64s80)
def c64:IFn:=⟨148,[.t 6],c64b⟩
def h64:List (Nat×Nat×List Nat):=[(0,(148,qq1)),(1,(148,Cw)),(2,(148,Wo)),(3,(148,Qd)),(4,(148,Qd)),(5,(148,Abd)),(6,(148,Qd)),(7,(148,Wo)),(8,(148,Aaa)),(9,(148,LW)),(10,(148,LW)),(11,(148,Qv)),(12,(148,M9)),(13,(148,M9)),(14,(148,M9)),(15,(148,M9)),(16,(148,Qv)),(17,(148,Wl)),(18,(148,AbA)),(19,(148,Qk)),(20,(148,Qk)),(21,(148,Aav)),(22,(148,Qk)),(23,(148,Wl)),(24,(148,P7)),(25,(148,P7)),(26,(148,AbD)),(27,(148,Aau)),(28,(148,ZY)),(29,(148,P5)),(30,(148,P5)),(31,(148,AaJ)),(32,(148,P5)),(33,(148,P7)),(34,(148,Qv)),(35,(148,LW)),(36,(148,LW)),(37,(148,[7]))]
def c66r0:List Seg:=[zo 6 (.mv (ci 0))]
def c66k0:=kk 22 [] c66r0
def c66s1:ICode:=(.seq c66k0 .ret)
def c66r2:List Seg:=[zo 6 (.mv (ci 1))]
def c66k2:=kk 22 [] c66r2
def c66s3:ICode:=(.cond (.t 21) (.seq c66k2 .ret) .skip)
def c66r4:List Seg:=[zm 13 1,zo 14 (.len 0 13),zm 15 2,zo 16 (.call [] 15 []),zo 17 (.bin .neq 14 16),zm 18 17,.one ⟨some 19,.mv 1,some (18,false)⟩,.one ⟨some 20,.call [] (.c (.func 83 [])) [19,(.c (.func 94 []))],some (18,false)⟩,zo 21 (.pick 18 (.c (.bool true)) 20)]
def c66k4:=kk 22 Bs c66r4
def c66s5:ICode:=(.seq (.seq c66k4 c66s3) c66s1)
def c66r6:List Seg:=[zm 12 7,zm 6 12]
def c66k6:=kk 22 [7] c66r6
def c66s7:ICode:=(.cond (.t 11) (.seq c66k6 .ret) .skip)
def c66r8:List Seg:=[zm 10 7,zo 11 (.bin .neq 10 (ci 0))]
def c66k8:=kk 22 Eh c66r8
def c66s9:ICode:=(.seq c66k8 c66s7)
def c66r10:List Seg:=[zo 8 (.loadN 3 3),zo 9 (.call [] (.c (.func 59 [])) [8]),zm 7 9]
def c66k10:=kk 22 FM c66r10
def c66s11:ICode:=(.seq (.seq c66k10 c66s9) c66s5)
def c66r12:List Seg:=[zo 3 (.box 0),zo 6 (.mv (ci 0))]
def c66k12:=kk 22 qq1 c66r12
def c66b:ICode:=(.seq c66k12 c66s11)
def c66:IFn:=⟨22,[.t 6],c66b⟩
def h66:List (Nat×Nat×List Nat):=[(0,(22,qq1)),(1,(22,FM)),(2,(22,Eh)),(3,(22,[7])),(4,(22,Bs)),(5,(22,[])),(6,(22,[]))]
def c67r0:List Seg:=[zo 3 (.fieldA 1 1),zo 4 (.load1 3),zo 5 (.len 0 4),zm 2 5]
def c67k0:=kk 6 [1] c67r0
def c67s1:ICode:=(.seq c67k0 .ret)
def c67r2:List Seg:=[zo 1 (.box 0),zo 2 (.mv (ci 0))]
def c67k2:=kk 6 [0] c67r2
def c67b:ICode:=(.seq c67k2 c67s1)
def c67:IFn:=⟨6,[.t 2],c67b⟩
def h67:List (Nat×Nat×List Nat):=[(0,(6,[0])),(1,(6,[1]))]
def c68r0:List Seg:=[zo 179 (.loadN 3 5),.one ⟨none,.storeN 3 4 179,none⟩]
def c68k0:=kk 180 Xe c68r0
def c68s1:ICode:=(.seq c68k0 .ret)
def c68r3:List Seg:=[zo 178 (.bin .add 155 (ci 1)),zm 155 178]
def c68k3:=kk 180 Gc c68r3
def c68r4:List Seg:=[.grp [(zp 160 (.idxA 3 1 5 (ci 2)),0),(zp 161 (.load1 160),1),(zn 162 26,0),(zp 163 (.call [] (.c (.func 63 [])) [162]),4),(zp 164 (.idxA 3 1 5 (ci 0)),0),(zp 165 (.load1 164),16),(zn 166 25,0),(zp 167 (.idxS 2 165 166),112),(zp 168 (.loadN 2 167),240),(zp 169 (.call [] (.c (.func 95 [])) [163,168]),508),(zp 170 (.load1 19),0),(zn 171 25,0),(zp 172 (.idxS 2 170 171),3072),(zp 173 (.loadN 2 172),7168),(zp 174 (.call [] (.c (.func 95 [])) [169,173]),16380),(zp 175 (.mkslice 1 [.int .i64 0,.int .i64 0] [(0,2,174)]),32764)],zo 176 (.app 2 16 161 175),zo 177 (.idxA 3 1 5 (ci 2)),.one ⟨none,.store1 177 176,none⟩]
def c68k4:=kk 180 Vz c68r4
def c68r5:List Seg:=[zm 157 155,zo 158 (.idxS 1 153 155),zo 159 (.load1 158),zm 25 157,zm 26 159]
def c68k5:=kk 180 Gc c68r5
def c68s6:ICode:=(.seq (.block 17 (.seq c68k5 c68k4)) c68k3)
def c68s7:ICode:=(.seq (.cond (.t 156) .skip (.exit 16)) c68s6)
def c68r8:List Seg:=[zo 156 (.bin .lss 155 154)]
def c68k8:=kk 180 Gc c68r8
def c68l2:ICode:=(.seq c68k8 c68s7)
def c68s9:ICode:=(.block 16 (.loop c68l2))
def c68r10:List Seg:=[zm 153 1,zo 154 (.len 0 153),zo 155 (.mv (ci 0))]
def c68k10:=kk 180 LV c68r10
def c68s11:ICode:=(.seq (.seq c68k10 c68s9) c68s1)
def c68r12:List Seg:=[zo 151 (.load1 19),zo 152 (.idxA 3 1 5 (ci 1)),.one ⟨none,.store1 152 151,none⟩]
def c68k12:=kk 180 LV c68r12
def c68s13:ICode:=(.seq c68k12 c68s11)
def c68r15:List Seg:=[zo 150 (.bin .add 128 (ci 1)),zm 128 150]
def c68k15:=kk 180 P6 c68r15
def c68r17:List Seg:=[.grp [(zp 138 (.load1 19),0),(zn 139 23,0),(zp 140 (.load1 19),0),(zn 141 23,0),(zp 142 (.idxS 2 140 141),12),(zp 143 (.loadN 2 142),28),(zp 144 (.loadN 2 22),0),(zn 145 24,0),(zp 146 (.call [] (.c (.func 63 [])) [145]),128),(zp 147 (.call [] (.c (.func 99 [])) [144,146]),448),(zp 148 (.call [] (.c (.func 97 [])) [143,147]),1020)],zo 149 (.idxS 2 138 139),.one ⟨none,.storeN 2 149 148,none⟩]
def c68k17:=kk 180 Up c68r17
def c68r18:List Seg:=[zm 24 137]
def c68k18:=kk 180 V7 c68r18
def c68r19:List Seg:=[zm 23 136]
def c68k19:=kk 180 U6 c68r19
def c68f16a:ICode:=(.seq c68k19 c68k18)
def c68f16b:ICode:=(.block 15 c68k17)
def c68s20:ICode:=(.block 14 (.rf (.t 135) [136,137] c68f16a c68f16b))
def c68r21:List Seg:=[zo 133 (.loadN 3 2),zm 134 21,zo 135 (.call [] (.c (.func 62 [])) [133,134])]
def c68k21:=kk 180 Aa9 c68r21
def c68s22:ICode:=(.seq c68k21 c68s20)
def c68r23:List Seg:=[zm 130 128,zo 131 (.idxS 2 126 128),zo 132 (.loadN 2 131),zo 22 (.box (.c (.agg [.int .i64 0,.int .i64 0]))),zm 21 130,.one ⟨none,.storeN 2 22 132,none⟩]
def c68k23:=kk 180 P6 c68r23
def c68s24:ICode:=(.seq (.block 13 (.seq c68k23 c68s22)) c68k15)
def c68s25:ICode:=(.seq (.cond (.t 129) .skip (.exit 12)) c68s24)
def c68r26:List Seg:=[zo 129 (.bin .lss 128 127)]
def c68k26:=kk 180 P6 c68r26
def c68l14:ICode:=(.seq c68k26 c68s25)
def c68s27:ICode:=(.block 12 (.loop c68l14))
def c68r28:List Seg:=[zm 122 11,zo 123 (.fieldA 2 2),zo 124 (.load1 123),zo 125 (.len 0 124),zo 126 (.call [] (.c (.func 98 [])) [122,125]),zo 127 (.len 0 126),zo 128 (.mv (ci 0))]
def c68k28:=kk 180 WG c68r28
def c68s29:ICode:=(.seq (.seq c68k28 c68s27) c68s13)
def c68r31:List Seg:=[zo 121 (.bin .add 114 (ci 1)),zm 114 121]
def c68k31:=kk 180 Qb c68r31
def c68r32:List Seg:=[zo 117 (.load1 19),zm 118 20,zo 119 (.loadN 2 (.c (.ptr 0 0))),zo 120 (.idxS 2 117 118),.one ⟨none,.storeN 2 120 119,none⟩]
def c68k32:=kk 180 AaK c68r32
def c68r33:List Seg:=[zm 116 114,zm 20 116]
def c68k33:=kk 180 Qb c68r33
def c68s34:ICode:=(.seq (.block 11 (.seq c68k33 c68k32)) c68k31)
def c68s35:ICode:=(.seq (.cond (.t 115) .skip (.exit 10)) c68s34)
def c68r36:List Seg:=[zo 115 (.bin .lss 114 113)]
def c68k36:=kk 180 Qb c68r36
def c68l30:ICode:=(.seq c68k36 c68s35)
def c68s37:ICode:=(.block 10 (.loop c68l30))
def c68r38:List Seg:=[zo 112 (.load1 19),zo 113 (.len 0 112),zo 114 (.mv (ci 0))]
def c68k38:=kk 180 WG c68r38
def c68s39:ICode:=(.seq (.seq c68k38 c68s37) c68s29)
def c68r40:List Seg:=[zo 108 (.fieldA 1 2),zo 109 (.load1 108),zo 110 (.len 0 109),zo 111 (.make [.int .i64 0,.int .i64 0] 16 110 110),zo 19 (.box (.c .nilslice)),.one ⟨none,.store1 19 111,none⟩]
def c68k40:=kk 180 Aa7 c68r40
def c68s41:ICode:=(.seq c68k40 c68s39)
def c68r43:List Seg:=[zo 107 (.bin .add 63 (ci 1)),zm 63 107]
def c68k43:=kk 180 Ql c68r43
def c68r44:List Seg:=[zm 103 11,zo 104 (.loadN 22 13),zo 105 (.mkslice 1 (List.replicate 22 (.int .i64 0)) [(0,22,104)]),zo 106 (.app 22 176 103 105),zm 11 106]
def c68k44:=kk 180 Abw c68r44
def c68r45:List Seg:=[zm 97 9,zm 98 12,zo 99 (.idxS 1 97 98),zo 100 (.load1 99),zo 101 (.call [] (.c (.func 63 [])) [100]),zo 102 (.idxA 11 2 13 (ci 10)),.one ⟨none,.storeN 2 102 101,none⟩]
def c68k45:=kk 180 WC c68r45
def c68s46:ICode:=(.seq c68k45 c68k44)
def c68r49:List Seg:=[zo 96 (.bin .add 75 (ci 1)),zm 75 96]
def c68k49:=kk 180 Gp c68r49
def c68r51:List Seg:=[.grp [(zp 86 (.load1 16),0),(zp 87 (.load1 16),0),(zp 88 (.idxA 11 2 13 87),2),(zp 89 (.loadN 2 88),6),(zp 90 (.load1 15),0),(zn 91 18,0),(zp 92 (.bin .mul 90 91),48),(zp 93 (.call [] (.c (.func 63 [])) [92]),112),(zp 94 (.call [] (.c (.func 97 [])) [89,93]),254)],zo 95 (.idxA 11 2 13 86),.one ⟨none,.storeN 2 95 94,none⟩]
def c68k51:=kk 180 UF c68r51
def c68s52:ICode:=(.cond (.t 85) c68k51 .skip)
def c68r53:List Seg:=[zm 83 17,zo 84 (.load1 14),zo 85 (.bin .eql 83 84)]
def c68k53:=kk 180 V1 c68r53
def c68r54:List Seg:=[zm 18 82]
def c68k54:=kk 180 UX c68r54
def c68r55:List Seg:=[zm 17 81]
def c68k55:=kk 180 TV c68r55
def c68f50a:ICode:=(.seq c68k55 c68k54)
def c68f50b:ICode:=(.block 9 (.seq c68k53 c68s52))
def c68s56:ICode:=(.block 8 (.rf (.t 80) [81,82] c68f50a c68f50b))
def c68r57:List Seg:=[zo 78 (.loadN 3 2),zo 79 (.load1 16),zo 80 (.call [] (.c (.func 62 [])) [78,79])]
def c68k57:=kk 180 Ul c68r57
def c68s58:ICode:=(.seq c68k57 c68s56)
def c68r59:List Seg:=[zm 77 75,zo 16 (.box (ci 0)),.one ⟨none,.store1 16 77,none⟩]
def c68k59:=kk 180 Gp c68r59
def c68s60:ICode:=(.seq (.block 7 (.seq c68k59 c68s58)) c68k49)
def c68s61:ICode:=(.seq (.cond (.t 76) .skip (.exit 6)) c68s60)
def c68r62:List Seg:=[zo 76 (.bin .lss 75 74)]
def c68k62:=kk 180 Gp c68r62
def c68l48:ICode:=(.seq c68k62 c68s61)
def c68s63:ICode:=(.block 6 (.loop c68l48))
def c68r64:List Seg:=[zo 72 (.fieldA 2 2),zo 73 (.load1 72),zo 74 (.len 0 73),zo 75 (.mv (ci 0))]
def c68k64:=kk 180 Ut c68r64
def c68r65:List Seg:=[zo 15 (.box (ci 0)),.one ⟨none,.store1 15 71,none⟩]
def c68k65:=kk 180 TH c68r65
def c68r66:List Seg:=[zo 14 (.box (ci 0)),.one ⟨none,.store1 14 70,none⟩]
def c68k66:=kk 180 U8 c68r66
def c68f47a:ICode:=(.seq c68k66 c68k65)
def c68f47b:ICode:=(.block 5 (.seq c68k64 c68s63))
def c68s67:ICode:=(.block 4 (.rf (.t 69) [70,71] c68f47a c68f47b))
def c68r68:List Seg:=[zo 67 (.loadN 3 2),zm 68 12,zo 69 (.call [] (.c (.func 62 [])) [67,68])]
def c68k68:=kk 180 WC c68r68
def c68s69:ICode:=(.seq (.seq c68k68 c68s67) c68s46)
def c68r70:List Seg:=[zo 66 (.call [] (.c (.func 96 [])) []),zo 13 (.box (.c (.agg (List.replicate 22 (.int .i64 0))))),.one ⟨none,.storeN 22 13 66,none⟩]
def c68k70:=kk 180 AaM c68r70
def c68s71:ICode:=(.seq c68k70 c68s69)
def c68r72:List Seg:=[zm 65 63,zm 12 65]
def c68k72:=kk 180 Ql c68r72
def c68s73:ICode:=(.seq (.block 3 (.seq c68k72 c68s71)) c68k43)
def c68s74:ICode:=(.seq (.cond (.t 64) .skip (.exit 2)) c68s73)
def c68r75:List Seg:=[zo 64 (.bin .lss 63 62)]
def c68k75:=kk 180 Ql c68r75
def c68l42:ICode:=(.seq c68k75 c68s74)
def c68s76:ICode:=(.block 2 (.loop c68l42))
def c68r77:List Seg:=[zo 60 (.fieldA 2 2),zo 61 (.load1 60),zo 62 (.len 0 61),zo 63 (.mv (ci 0))]
def c68k77:=kk 180 Aag c68r77
def c68s78:ICode:=(.seq (.seq c68k77 c68s76) c68s41)
def c68r79:List Seg:=[zo 11 (.mv (.c .nilslice))]
def c68k79:=kk 180 Aa5 c68r79
def c68s80:ICode:=(.seq c68k79 c68s78)
def c68r81:List Seg:=[zo 55 (.loadN 3 2),zm 56 1,zo 57 (.call [] (.c (.func 40 [])) [55,56]),zm 54 57,zo 58 (.ext 54 0),zo 59 (.ext 54 1),zm 9 58,zm 10 59]
def c68k81:=kk 180 Wv c68r81
def c68s82:ICode:=(.seq c68k81 c68s80)
def c68r84:List Seg:=[zo 53 (.bin .add 33 (ci 1)),zm 33 53]
def c68k84:=kk 180 Qf c68r84
def c68r85:List Seg:=[.grp [(zp 37 (.idxA 3 1 5 (ci 0)),0),(zp 38 (.load1 37),1),(zn 39 6,0),(zp 40 (.idxA 2 1 8 (ci 1)),0),(zp 41 (.load1 40),8),(zp 42 (.idxS 2 39 41),28),(zp 43 (.loadN 2 42),60),(zn 44 6,0),(zp 45 (.idxA 2 1 8 (ci 0)),0),(zp 46 (.load1 45),256),(zp 47 (.idxS 2 44 46),896),(zp 48 (.loadN 2 47),1920),(zp 49 (.call [] (.c (.func 95 [])) [43,48]),4092),(zp 50 (.mkslice 1 [.int .i64 0,.int .i64 0] [(0,2,49)]),8188)],zo 51 (.app 2 16 38 50),zo 52 (.idxA 3 1 5 (ci 0)),.one ⟨none,.store1 52 51,none⟩]
def c68k85:=kk 180 AaD c68r85
def c68r86:List Seg:=[zo 35 (.idxS 2 31 33),zo 36 (.loadN 2 35),zo 8 (.box (.c (.agg [.int .i64 0,.int .i64 0]))),.one ⟨none,.storeN 2 8 36,none⟩]
def c68k86:=kk 180 Qf c68r86
def c68s87:ICode:=(.seq (.block 1 (.seq c68k86 c68k85)) c68k84)
def c68s88:ICode:=(.seq (.cond (.t 34) .skip (.exit 0)) c68s87)
def c68r89:List Seg:=[zo 34 (.bin .lss 33 32)]
def c68k89:=kk 180 Qf c68r89
def c68l83:ICode:=(.seq c68k89 c68s88)
def c68s90:ICode:=(.block 0 (.loop c68l83))
def c68r91:List Seg:=[zo 30 (.fieldA 1 2),zo 31 (.load1 30),zo 32 (.len 0 31),zo 33 (.mv (ci 0))]
def c68k91:=kk 180 Z9 c68r91
def c68s92:ICode:=(.seq (.seq c68k91 c68s90) c68s82)
def c68r93:List Seg:=[zo 27 (.loadN 3 2),zm 28 1,zo 29 (.call [] (.c (.func 70 [])) [27,28]),zm 6 29]
def c68k93:=kk 180 Wv c68r93
def c68s94:ICode:=(.seq c68k93 c68s92)
def c68r95:List Seg:=[zo 5 (.box (.c (.agg [.nilslice,.nilslice,.nilslice])))]
def c68k95:=kk 180 QL c68r95
def c68s96:ICode:=(.seq c68k95 c68s94)
def c68r97:List Seg:=[zo 2 (.box 0),zo 4 (.box (.c (.agg [.nilslice,.nilslice,.nilslice])))]
def c68k97:=kk 180 Az c68r97
def c68b:ICode:=(.seq c68k97 c68s96)
def c68:IFn:=⟨180,[.cellN 4 3],c68b⟩
def h68:List (Nat×Nat×List Nat):=[(0,(180,Az)),(1,(180,QL)),(2,(180,Wv)),(3,(180,Z9)),(4,(180,Qf)),(5,(180,Qf)),(6,(180,AaD)),(7,(180,Qf)),(8,(180,Wv)),(9,(180,Aa5)),(10,(180,Aag)),(11,(180,Ql)),(12,(180,Ql)),(13,(180,AaM)),(14,(180,WC)),(15,(180,U8)),(16,(180,TH)),(17,(180,Ut)),(18,(180,Gp)),(19,(180,Gp)),(20,(180,Ul)),(21,(180,TV)),(22,(180,UX)),(23,(180,V1)),(24,(180,UF)),(25,(180,Gp)),(26,(180,WC)),(27,(180,Abw)),(28,(180,Ql)),(29,(180,Aa7)),(30,(180,WG)),(31,(180,Qb)),(32,(180,Qb)),(33,(180,AaK)),(34,(180,Qb)),(35,(180,WG)),(36,(180,P6)),(37,(180,P6)),(38,(180,Aa9)),(39,(180,U6)),(40,(180,V7)),(41,(180,Up)),(42,(180,P6)),(43,(180,LV)),(44,(180,LV)),(45,(180,Gc)),(46,(180,Gc)),(47,(180,Vz)),(48,(180,Gc)),(49,(180,Xe))]
def c69r0:List Seg:=[zm 21 3,zm 2 21]
def c69k0:=kk 22 [3] c69r0
def c69s1:ICode:=(.seq c69k0 .ret)
def c69r3:List Seg:=[zo 20 (.bin .add 8 (ci 1)),zm 8 20]
def c69k3:=kk 22 Gf c69r3
def c69r4:List Seg:=[zm 12 3,zo 13 (.fieldA 0 5),zo 14 (.load1 13),zo 15 (.fieldA 1 5),zo 16 (.load1 15),zo 17 (.mkagg [.int .i64 0,.int .i64 0] [(0,1,14),(1,1,16)]),zo 18 (.mkslice 1 [.int .i64 0,.int .i64 0] [(0,2,17)]),zo 19 (.app 2 16 12 18),zm 3 19]
def c69k4:=kk 22 TF c69r4
def c69r5:List Seg:=[zo 10 (.idxS 2 6 8),zo 11 (.loadN 2 10),zo 5 (.box (.c (.agg [.int .i64 0,.int .i64 0]))),.one ⟨none,.storeN 2 5 11,none⟩]
def c69k5:=kk 22 Gf c69r5
def c69s6:ICode:=(.seq (.block 1 (.seq c69k5 c69k4)) c69k3)
def c69s7:ICode:=(.seq (.cond (.t 9) .skip (.exit 0)) c69s6)
def c69r8:List Seg:=[zo 9 (.bin .lss 8 7)]
def c69k8:=kk 22 Gf c69r8
def c69l2:ICode:=(.seq c69k8 c69s7)
def c69s9:ICode:=(.block 0 (.loop c69l2))
def c69r10:List Seg:=[zm 6 0,zo 7 (.len 0 6),zo 8 (.mv (ci 0))]
def c69k10:=kk 22 WJ c69r10
def c69s11:ICode:=(.seq (.seq c69k10 c69s9) c69s1)
def c69r12:List Seg:=[zo 3 (.mv (.c .nilslice))]
def c69k12:=kk 22 [0] c69r12
def c69s13:ICode:=(.seq c69k12 c69s11)
def c69r14:List Seg:=[zo 2 (.mv (.c .nilslice))]
def c69k14:=kk 22 [0] c69r14
def c69b:ICode:=(.seq c69k14 c69s13)
def c69:IFn:=⟨22,[.t 2],c69b⟩
def h69:List (Nat×Nat×List Nat):=[(0,(22,[0])),(1,(22,[0])),(2,(22,WJ)),(3,(22,Gf)),(4,(22,Gf)),(5,(22,TF)),(6,(22,Gf)),(7,(22,[3]))]
def c70r0:List Seg:=[zm 115 5,zo 116 (.fieldA 0 2),zo 117 (.load1 116),zo 118 (.call [] (.c (.func 98 [])) [115,117]),zm 4 118]
def c70k0:=kk 119 Q3 c70r0
def c70s1:ICode:=(.seq c70k0 .ret)
def c70r3:List Seg:=[zo 114 (.bin .add 87 (ci 1)),zm 87 114]
def c70k3:=kk 119 Gk c70r3
def c70r4:List Seg:=[zm 110 5,zo 111 (.loadN 22 16),zo 112 (.mkslice 1 (List.replicate 22 (.int .i64 0)) [(0,22,111)]),zo 113 (.app 22 176 110 112),zm 5 113]
def c70k4:=kk 119 Vm c70r4
def c70r6:List Seg:=[zo 109 (.bin .add 98 (ci 1)),zm 98 109]
def c70k6:=kk 119 F3 c70r6
def c70r7:List Seg:=[zm 106 17,zo 107 (.call [] (.c (.func 63 [])) [(ci 1)]),zo 108 (.idxA 11 2 16 106),.one ⟨none,.storeN 2 108 107,none⟩]
def c70k7:=kk 119 MW c70r7
def c70s8:ICode:=(.cond (.t 105) c70k7 .skip)
def c70r9:List Seg:=[zm 101 14,zm 102 17,zo 103 (.call [] 101 [102]),zm 104 15,zo 105 (.bin .eql 103 104)]
def c70k9:=kk 119 MW c70r9
def c70s10:ICode:=(.seq c70k9 c70s8)
def c70r11:List Seg:=[zm 100 98,zm 17 100]
def c70k11:=kk 119 F3 c70r11
def c70s12:ICode:=(.seq (.block 9 (.seq c70k11 c70s10)) c70k6)
def c70s13:ICode:=(.seq (.cond (.t 99) .skip (.exit 8)) c70s12)
def c70r14:List Seg:=[zo 99 (.bin .lss 98 97)]
def c70k14:=kk 119 F3 c70r14
def c70l5:ICode:=(.seq c70k14 c70s13)
def c70s15:ICode:=(.block 8 (.loop c70l5))
def c70r16:List Seg:=[zo 96 (.fieldA 0 2),zo 97 (.load1 96),zo 98 (.mv (ci 0))]
def c70k16:=kk 119 TM c70r16
def c70s17:ICode:=(.seq (.seq c70k16 c70s15) c70k4)
def c70r18:List Seg:=[zo 95 (.call [] (.c (.func 96 [])) []),zo 16 (.box (.c (.agg (List.replicate 22 (.int .i64 0))))),.one ⟨none,.storeN 22 16 95,none⟩]
def c70k18:=kk 119 Mg c70r18
def c70s19:ICode:=(.seq c70k18 c70s17)
def c70s20:ICode:=(.cond (.t 94) (.exit 7) .skip)
def c70r21:List Seg:=[zm 90 14,zm 91 15,zo 92 (.call [] 90 [91]),zm 93 15,zo 94 (.bin .neq 92 93)]
def c70k21:=kk 119 Mg c70r21
def c70s22:ICode:=(.seq (.seq c70k21 c70s20) c70s19)
def c70r23:List Seg:=[zm 89 87,zm 15 89]
def c70k23:=kk 119 Gk c70r23
def c70s24:ICode:=(.seq (.block 7 (.seq c70k23 c70s22)) c70k3)
def c70s25:ICode:=(.seq (.cond (.t 88) .skip (.exit 6)) c70s24)
def c70r26:List Seg:=[zo 88 (.bin .lss 87 86)]
def c70k26:=kk 119 Gk c70r26
def c70l2:ICode:=(.seq c70k26 c70s25)
def c70s27:ICode:=(.block 6 (.loop c70l2))
def c70r28:List Seg:=[zo 85 (.fieldA 0 2),zo 86 (.load1 85),zo 87 (.mv (ci 0))]
def c70k28:=kk 119 UC c70r28
def c70s29:ICode:=(.seq (.seq c70k28 c70s27) c70s1)
def c70r30:List Seg:=[zo 84 (.mkfn 100 [13]),zm 14 84]
def c70k30:=kk 119 Uf c70r30
def c70s31:ICode:=(.seq c70k30 c70s29)
def c70r32:List Seg:=[.grp [(zp 78 (.loadN 3 2),0),(zp 79 (.fieldA 1 2),0),(zp 80 (.load1 79),2),(zp 81 (.len 0 80),6),(zp 82 (.make [.int .i64 0] 8 81 81),14),(zp 83 (.call [] (.c (.func 78 [])) [78,82]),31),(zp 13 (.box (.c .nilptr)),0)],.one ⟨none,.store1 13 83,none⟩]
def c70k32:=kk 119 Q3 c70r32
def c70s33:ICode:=(.seq c70k32 c70s31)
def c70r35:List Seg:=[zo 77 (.bin .add 26 (ci 1)),zm 26 77]
def c70k35:=kk 119 F4 c70r35
def c70r36:List Seg:=[zm 73 5,zo 74 (.loadN 22 9),zo 75 (.mkslice 1 (List.replicate 22 (.int .i64 0)) [(0,22,74)]),zo 76 (.app 22 176 73 75),zm 5 76]
def c70k36:=kk 119 UO c70r36
def c70r37:List Seg:=[zm 67 6,zm 68 8,zo 69 (.idxS 1 67 68),zo 70 (.load1 69),zo 71 (.call [] (.c (.func 63 [])) [70]),zo 72 (.idxA 11 2 9 (ci 10)),.one ⟨none,.storeN 2 72 71,none⟩]
def c70k37:=kk 119 M2 c70r37
def c70s38:ICode:=(.seq c70k37 c70k36)
def c70r40:List Seg:=[zo 66 (.bin .add 33 (ci 1)),zm 33 66]
def c70k40:=kk 119 Gb c70r40
def c70r42:List Seg:=[zo 65 (.bin .add 37 (ci 1)),zm 37 65]
def c70k42:=kk 119 Gt c70r42
def c70r43:List Seg:=[.grp [(zn 52 12,0),(zp 53 (.bin .sub (ci 1) 52),1),(zp 54 (.idxA 2 1 11 53),3),(zp 55 (.load1 54),7),(zn 56 12,0),(zp 57 (.bin .sub (ci 1) 56),16),(zp 58 (.idxA 2 1 11 57),48),(zp 59 (.load1 58),112),(zp 60 (.idxA 11 2 9 59),240),(zp 61 (.loadN 2 60),496),(zp 62 (.call [] (.c (.func 63 [])) [(ci 1)]),0),(zp 63 (.call [] (.c (.func 95 [])) [61,62]),2032)],zo 64 (.idxA 11 2 9 55),.one ⟨none,.storeN 2 64 63,none⟩]
def c70k43:=kk 119 Ie c70r43
def c70r44:List Seg:=[.grp [(zn 45 8,0),(zn 46 8,0),(zp 47 (.idxA 11 2 9 46),2),(zp 48 (.loadN 2 47),6),(zp 49 (.call [] (.c (.func 63 [])) [(ci 1)]),0),(zp 50 (.call [] (.c (.func 97 [])) [48,49]),30)],zo 51 (.idxA 11 2 9 45),.one ⟨none,.storeN 2 51 50,none⟩]
def c70k44:=kk 119 Ie c70r44
def c70s45:ICode:=(.cond (.t 44) (.seq c70k44 c70k43) .skip)
def c70r46:List Seg:=[zm 40 12,zo 41 (.idxA 2 1 11 40),zo 42 (.load1 41),zm 43 8,zo 44 (.bin .eql 42 43)]
def c70k46:=kk 119 Ie c70r46
def c70s47:ICode:=(.seq c70k46 c70s45)
def c70r48:List Seg:=[zm 39 37,zm 12 39]
def c70k48:=kk 119 Gt c70r48
def c70s49:ICode:=(.seq (.block 5 (.seq c70k48 c70s47)) c70k42)
def c70s50:ICode:=(.seq (.cond (.t 38) .skip (.exit 4)) c70s49)
def c70r51:List Seg:=[zo 38 (.bin .lss 37 (ci 2))]
def c70k51:=kk 119 Gt c70r51
def c70l41:ICode:=(.seq c70k51 c70s50)
def c70s52:ICode:=(.block 4 (.loop c70l41))
def c70r53:List Seg:=[zo 37 (.mv (ci 0))]
def c70k53:=kk 119 Vr c70r53
def c70s54:ICode:=(.seq c70k53 c70s52)
def c70r55:List Seg:=[zo 35 (.idxS 2 31 33),zo 36 (.loadN 2 35),zo 11 (.box (.c (.agg [.int .i64 0,.int .i64 0]))),.one ⟨none,.storeN 2 11 36,none⟩]
def c70k55:=kk 119 Gb c70r55
def c70s56:ICode:=(.seq (.block 3 (.seq c70k55 c70s54)) c70k40)
def c70s57:ICode:=(.seq (.cond (.t 34) .skip (.exit 2)) c70s56)
def c70r58:List Seg:=[zo 34 (.bin .lss 33 32)]
def c70k58:=kk 119 Gb c70r58
def c70l39:ICode:=(.seq c70k58 c70s57)
def c70s59:ICode:=(.block 2 (.loop c70l39))
def c70r60:List Seg:=[zo 30 (.fieldA 1 2),zo 31 (.load1 30),zo 32 (.len 0 31),zo 33 (.mv (ci 0))]
def c70k60:=kk 119 M2 c70r60
def c70s61:ICode:=(.seq (.seq c70k60 c70s59) c70s38)
def c70r62:List Seg:=[zo 29 (.call [] (.c (.func 96 [])) []),zo 9 (.box (.c (.agg (List.replicate 22 (.int .i64 0))))),.one ⟨none,.storeN 22 9 29,none⟩]
def c70k62:=kk 119 Ux c70r62
def c70s63:ICode:=(.seq c70k62 c70s61)
def c70r64:List Seg:=[zm 28 26,zm 8 28]
def c70k64:=kk 119 F4 c70r64
def c70s65:ICode:=(.seq (.block 1 (.seq c70k64 c70s63)) c70k35)
def c70s66:ICode:=(.seq (.cond (.t 27) .skip (.exit 0)) c70s65)
def c70r67:List Seg:=[zo 27 (.bin .lss 26 25)]
def c70k67:=kk 119 F4 c70r67
def c70l34:ICode:=(.seq c70k67 c70s66)
def c70s68:ICode:=(.block 0 (.loop c70l34))
def c70r69:List Seg:=[zo 24 (.fieldA 0 2),zo 25 (.load1 24),zo 26 (.mv (ci 0))]
def c70k69:=kk 119 UP c70r69
def c70s70:ICode:=(.seq (.seq c70k69 c70s68) c70s33)
def c70r71:List Seg:=[zo 19 (.loadN 3 2),zm 20 1,zo 21 (.call [] (.c (.func 22 [])) [19,20]),zm 18 21,zo 22 (.ext 18 0),zo 23 (.ext 18 1),zm 6 22,zm 7 23]
def c70k71:=kk 119 Mb c70r71
def c70s72:ICode:=(.seq c70k71 c70s70)
def c70r73:List Seg:=[zo 5 (.mv (.c .nilslice))]
def c70k73:=kk 119 Bs c70r73
def c70s74:ICode:=(.seq c70k73 c70s72)
def c70r75:List Seg:=[zo 2 (.box 0),zo 4 (.mv (.c .nilslice))]
def c70k75:=kk 119 Az c70r75
def c70b:ICode:=(.seq c70k75 c70s74)
def c70:IFn:=⟨119,[.t 4],c70b⟩
def h70:List (Nat×Nat×List Nat):=[(0,(119,Az)),(1,(119,Bs)),(2,(119,Mb)),(3,(119,UP)),(4,(119,F4)),(5,(119,F4)),(6,(119,Ux)),(7,(119,M2)),(8,(119,Gb)),(9,(119,Gb)),(10,(119,Vr)),(11,(119,Gt)),(12,(119,Gt)),(13,(119,Ie)),(14,(119,Ie)),(15,(119,Ie)),(16,(119,Gt)),(17,(119,Gb)),(18,(119,M2)),(19,(119,UO)),(20,(119,F4)),(21,(119,Q3)),(22,(119,Uf)),(23,(119,UC)),(24,(119,Gk)),(25,(119,Gk)),(26,(119,Mg)),(27,(119,Mg)),(28,(119,TM)),(29,(119,F3)),(30,(119,F3)),(31,(119,MW)),(32,(119,MW)),(33,(119,F3)),(34,(119,Vm)),(35,(119,Gk)),(36,(119,Q3))]
def c72r0:List Seg:=[zm 11 0,zm 12 0,zo 13 (.un .neg 12),zo 14 (.mx [11,13,(ci 1)]),zm 4 14]
def c72k0:=kk 15 [0] c72r0
def c72s1:ICode:=(.seq c72k0 .ret)
def c72r3:List Seg:=[.grp [(zn 7 1,0),(zn 8 0,0),(zn 9 1,0),(zp 10 (.bin .rem 8 9),6),(zn 0 7,3)],zm 1 10]
def c72k3:=kk 15 Az c72r3
def c72s4:ICode:=(.block 1 c72k3)
def c72s5:ICode:=(.cond (.t 6) .skip (.exit 0))
def c72r6:List Seg:=[zm 5 1,zo 6 (.bin .neq 5 (ci 0))]
def c72k6:=kk 15 Az c72r6
def c72l2:ICode:=(.seq (.seq c72k6 c72s5) c72s4)
def c72s7:ICode:=(.seq (.block 0 (.loop c72l2)) c72s1)
def c72r8:List Seg:=[zo 4 (.mv (ci 0))]
def c72k8:=kk 15 Az c72r8
def c72b:ICode:=(.seq c72k8 c72s7)
def c72:IFn:=⟨15,[.t 4],c72b⟩
def h72:List (Nat×Nat×List Nat):=[(0,(15,Az)),(1,(15,Az)),(2,(15,Az)),(3,(15,[0]))]
def c73r0:List Seg:=[.grp [(zn 15 0,0),(zn 16 5,0),(zp 17 (.bin .quo 15 16),3),(zn 18 1,0),(zn 19 5,0),(zp 20 (.bin .quo 18 19),24)],zo 21 (.mkagg [.int .i64 0,.int .i64 0] [(0,1,17),(1,1,20)]),.one ⟨none,.storeN 2 4 21,none⟩]
def c73k0:=kk 22 qq4 c73r0
def c73s1:ICode:=(.seq c73k0 .ret)
def c73r2:List Seg:=[zm 12 0,zm 13 1,zo 14 (.call [] (.c (.func 72 [])) [12,13]),zm 5 14]
def c73k2:=kk 22 qq5 c73r2
def c73s3:ICode:=(.seq c73k2 c73s1)
def c73r4:List Seg:=[zm 8 0,zo 9 (.un .neg 8),zm 10 1,zo 11 (.un .neg 10),zm 0 9,zm 1 11]
def c73k4:=kk 22 qq5 c73r4
def c73s5:ICode:=(.cond (.t 7) c73k4 .skip)
def c73r6:List Seg:=[zm 6 1,zo 7 (.bin .lss 6 (ci 0))]
def c73k6:=kk 22 qq5 c73r6
def c73s7:ICode:=(.seq (.seq c73k6 c73s5) c73s3)
def c73r8:List Seg:=[zo 4 (.box (.c (.agg [.int .i64 0,.int .i64 0])))]
def c73k8:=kk 22 Az c73r8
def c73b:ICode:=(.seq c73k8 c73s7)
def c73:IFn:=⟨22,[.cellN 4 2],c73b⟩
def h73:List (Nat×Nat×List Nat):=[(0,(22,Az)),(1,(22,qq5)),(2,(22,qq5)),(3,(22,qq5)),(4,(22,qq4))]
def c74r0:List Seg:=[zo 3 (.fieldA 0 1),zo 4 (.load1 3),zm 2 4]
def c74k0:=kk 5 [1] c74r0
def c74s1:ICode:=(.seq c74k0 .ret)
def c74r2:List Seg:=[zo 1 (.box 0),zo 2 (.mv (ci 0))]
def c74k2:=kk 5 [0] c74r2
def c74b:ICode:=(.seq c74k2 c74s1)
def c74:IFn:=⟨5,[.t 2],c74b⟩
def h74:List (Nat×Nat×List Nat):=[(0,(5,[0])),(1,(5,[1]))]
def c75r0:List Seg:=[zo 4 (.mv (.c (.int .i64 (-1))))]
def c75k0:=kk 19 [] c75r0
def c75s1:ICode:=(.seq c75k0 .ret)
def c75r3:List Seg:=[zo 18 (.bin .add 8 (ci 1)),zm 8 18]
def c75k3:=kk 19 Qc c75r3
def c75r4:List Seg:=[zm 17 5,zm 4 17]
def c75k4:=kk 19 [5] c75r4
def c75s5:ICode:=(.cond (.t 16) (.seq c75k4 .ret) .skip)
def c75r6:List Seg:=[.grp [(zp 11 (.loadN 2 3),0),(zn 12 0,0),(zn 13 5,0),(zp 14 (.idxS 2 12 13),6),(zp 15 (.loadN 2 14),14)],zo 16 (.eqv false (.ints 2) 11 15)]
def c75k6:=kk 19 Abx c75r6
def c75s7:ICode:=(.seq c75k6 c75s5)
def c75r8:List Seg:=[zm 10 8,zm 5 10]
def c75k8:=kk 19 Qc c75r8
def c75s9:ICode:=(.seq (.block 1 (.seq c75k8 c75s7)) c75k3)
def c75s10:ICode:=(.seq (.cond (.t 9) .skip (.exit 0)) c75s9)
def c75r11:List Seg:=[zo 9 (.bin .lss 8 7)]
def c75k11:=kk 19 Qc c75r11
def c75l2:ICode:=(.seq c75k11 c75s10)
def c75s12:ICode:=(.block 0 (.loop c75l2))
def c75r13:List Seg:=[zm 6 0,zo 7 (.len 0 6),zo 8 (.mv (ci 0))]
def c75k13:=kk 19 WJ c75r13
def c75s14:ICode:=(.seq (.seq c75k13 c75s12) c75s1)
def c75r15:List Seg:=[zo 3 (.box 1),zo 4 (.mv (ci 0))]
def c75k15:=kk 19 Az c75r15
def c75b:ICode:=(.seq c75k15 c75s14)
def c75:IFn:=⟨19,[.t 4],c75b⟩
def h75:List (Nat×Nat×List Nat):=[(0,(19,Az)),(1,(19,WJ)),(2,(19,Qc)),(3,(19,Qc)),(4,(19,Abx)),(5,(19,[5])),(6,(19,Qc)),(7,(19,[]))]
def c78r0:List Seg:=[zm 115 5,zm 4 115]
def c78k0:=kk 116 [5] c78r0
def c78s1:ICode:=(.seq c78k0 .ret)
def c78r3:List Seg:=[zo 114 (.bin .add 21 (ci 1)),zm 21 114]
def c78k3:=kk 116 Qe c78r3
def c78r6:List Seg:=[zo 113 (.bin .add 55 (ci 1)),zm 55 113]
def c78k6:=kk 116 Ga c78r6
def c78r8:List Seg:=[zo 112 (.bin .add 60 (ci 1)),zm 60 112]
def c78k8:=kk 116 F9 c78r8
def c78r9:List Seg:=[zm 108 8,zm 109 14,zo 110 (.mkslice 1 [.int .i64 0] [(0,1,109)]),zo 111 (.app 1 8 108 110),zm 8 111]
def c78k9:=kk 116 Ub c78r9
def c78r10:List Seg:=[.grpw (.t 104) (.t 93) none 59379 [(zn 89 5,0),(zn 90 14,0),(zn 91 5,0),(zn 92 14,0),(zn 93 9,0),(zn 94 5,0),(zn 95 9,0),(zp 96 (.nilck (.t 94)),32),(zp 97 (.fieldA 6 (.t 96)),160),(zp 98 (.idxA 6 1 (.t 97) (.t 95)),480),(zp 99 (.load1 (.t 98)),992),(zn 100 15,0),(zp 101 (.bin .add (.t 99) (.t 100)),4064),(zp 102 (.nilck (.t 89)),1),(zp 103 (.fieldA 0 (.t 102)),8193),(zp 104 (.idxA 6 1 (.t 103) (.t 90)),26611),(⟨none,.lenc 0,none⟩,59379),(zp 105 (.nilck (.t 91)),4),(zp 106 (.fieldA 6 (.t 105)),131076)],zo 107 (.idxA 6 1 (.t 106) (.t 92)),.one ⟨none,.store1 (.t 107) (.t 101),none⟩]
def c78k10:ICode:=.kill 116 Ob (.ops c78r10)
def c78s11:ICode:=(.seq c78k10 c78k9)
def c78r12:List Seg:=[zm 87 6,zm 88 14,.one ⟨none,.mset 87 88 (.c (.bool true)),none⟩]
def c78k12:=kk 116 Ob c78r12
def c78s13:ICode:=(.cond (.t 86) (.seq c78k12 c78s11) .skip)
def c78r14:List Seg:=[zm 78 13,zm 79 9,zo 80 (.bin .eql 78 79),zm 81 80,.one ⟨some 82,.mv 6,some (81,true)⟩,.one ⟨some 83,.mv 14,some (81,true)⟩,.one ⟨some 84,.look (.bool false) false 82 83,some (81,true)⟩,.one ⟨some 85,.un .not 84,some (81,true)⟩,zo 86 (.pick 81 85 (.c (.bool false)))]
def c78k14:=kk 116 Vl c78r14
def c78s15:ICode:=(.seq c78k14 c78s13)
def c78r16:List Seg:=[zm 76 15,zo 77 (.un .neg 76),zm 15 77]
def c78k16:=kk 116 Vl c78r16
def c78s17:ICode:=(.cond (.t 75) c78k16 .skip)
def c78r18:List Seg:=[zm 74 12,zo 75 (.bin .eql 74 (ci 1))]
def c78k18:=kk 116 Aai c78r18
def c78s19:ICode:=(.seq (.seq c78k18 c78s17) c78s15)
def c78r20:List Seg:=[.grp [(zn 63 12,0),(zp 64 (.idxA 2 1 11 63),1),(zp 65 (.load1 64),3),(zn 66 12,0),(zp 67 (.bin .sub (ci 1) 66),8),(zp 68 (.idxA 2 1 11 67),24),(zp 69 (.load1 68),56),(zn 70 1,0),(zn 71 10,0),(zp 72 (.idxS 1 70 71),384),(zp 73 (.load1 72),896),(zn 13 65,7),(zn 14 69,2175)],zm 15 73]
def c78k20:=kk 116 Aaw c78r20
def c78s21:ICode:=(.seq c78k20 c78s19)
def c78r22:List Seg:=[zm 62 60,zm 12 62]
def c78k22:=kk 116 F9 c78r22
def c78s23:ICode:=(.seq (.block 7 (.seq c78k22 c78s21)) c78k8)
def c78s24:ICode:=(.seq (.cond (.t 61) .skip (.exit 6)) c78s23)
def c78r25:List Seg:=[zo 61 (.bin .lss 60 (ci 2))]
def c78k25:=kk 116 F9 c78r25
def c78l7:ICode:=(.seq c78k25 c78s24)
def c78s26:ICode:=(.block 6 (.loop c78l7))
def c78r27:List Seg:=[zo 60 (.mv (ci 0))]
def c78k27:=kk 116 Vc c78r27
def c78s28:ICode:=(.seq c78k27 c78s26)
def c78r29:List Seg:=[zm 57 55,zo 58 (.idxS 2 53 55),zo 59 (.loadN 2 58),zo 11 (.box (.c (.agg [.int .i64 0,.int .i64 0]))),zm 10 57,.one ⟨none,.storeN 2 11 59,none⟩]
def c78k29:=kk 116 Ga c78r29
def c78s30:ICode:=(.seq (.block 5 (.seq c78k29 c78s28)) c78k6)
def c78s31:ICode:=(.seq (.cond (.t 56) .skip (.exit 4)) c78s30)
def c78r32:List Seg:=[zo 56 (.bin .lss 55 54)]
def c78k32:=kk 116 Ga c78r32
def c78l5:ICode:=(.seq c78k32 c78s31)
def c78s33:ICode:=(.block 4 (.loop c78l5))
def c78r34:List Seg:=[zo 52 (.fieldA 1 2),zo 53 (.load1 52),zo 54 (.len 0 53),zo 55 (.mv (ci 0))]
def c78k34:=kk 116 MA c78r34
def c78s35:ICode:=(.seq c78k34 c78s33)
def c78r36:List Seg:=[zm 50 8,zo 51 (.sliceS 1 50 (some (ci 1)) none none),zm 8 51]
def c78k36:=kk 116 MA c78r36
def c78s37:ICode:=(.seq c78k36 c78s35)
def c78r38:List Seg:=[zm 47 8,zo 48 (.idxS 1 47 (ci 0)),zo 49 (.load1 48),zm 9 49]
def c78k38:=kk 116 TQ c78r38
def c78s39:ICode:=(.block 3 (.seq c78k38 c78s37))
def c78s40:ICode:=(.cond (.t 46) .skip (.exit 2))
def c78r41:List Seg:=[zm 44 8,zo 45 (.len 0 44),zo 46 (.bin .gtr 45 (ci 0))]
def c78k41:=kk 116 TQ c78r41
def c78l4:ICode:=(.seq (.seq c78k41 c78s40) c78s39)
def c78s42:ICode:=(.block 2 (.loop c78l4))
def c78r43:List Seg:=[zm 42 7,zo 43 (.mkslice 1 [.int .i64 0] [(0,1,42)]),zm 8 43]
def c78k43:=kk 116 JK c78r43
def c78s44:ICode:=(.seq c78k43 c78s42)
def c78r45:List Seg:=[zm 36 5,zm 37 7,zm 38 7,zo 39 (.nilck 36),zo 40 (.fieldA 0 39),zo 41 (.idxA 6 1 40 37),.one ⟨none,.store1 41 38,none⟩]
def c78k45:=kk 116 JK c78r45
def c78s46:ICode:=(.seq c78k45 c78s44)
def c78r47:List Seg:=[zm 34 6,zm 35 7,.one ⟨none,.mset 34 35 (.c (.bool true)),none⟩]
def c78k47:=kk 116 JK c78r47
def c78s48:ICode:=(.seq c78k47 c78s46)
def c78r49:List Seg:=[zm 27 5,zo 28 (.nilck 27),zo 29 (.fieldA 12 28),zo 30 (.load1 29),zo 31 (.bin .add 30 (ci 1)),zo 32 (.nilck 27),zo 33 (.fieldA 12 32),.one ⟨none,.store1 33 31,none⟩]
def c78k49:=kk 116 JK c78r49
def c78s50:ICode:=(.seq c78k49 c78s48)
def c78s51:ICode:=(.cond (.t 26) (.exit 1) .skip)
def c78r52:List Seg:=[zm 24 6,zm 25 7,zo 26 (.look (.bool false) false 24 25)]
def c78k52:=kk 116 JK c78r52
def c78s53:ICode:=(.seq (.seq c78k52 c78s51) c78s50)
def c78r54:List Seg:=[zm 23 21,zm 7 23]
def c78k54:=kk 116 Qe c78r54
def c78s55:ICode:=(.seq (.block 1 (.seq c78k54 c78s53)) c78k3)
def c78s56:ICode:=(.seq (.cond (.t 22) .skip (.exit 0)) c78s55)
def c78r57:List Seg:=[zo 22 (.bin .lss 21 20)]
def c78k57:=kk 116 Qe c78r57
def c78l2:ICode:=(.seq c78k57 c78s56)
def c78s58:ICode:=(.block 0 (.loop c78l2))
def c78r59:List Seg:=[zo 19 (.fieldA 0 2),zo 20 (.load1 19),zo 21 (.mv (ci 0))]
def c78k59:=kk 116 V5 c78r59
def c78s60:ICode:=(.seq (.seq c78k59 c78s58) c78s1)
def c78r61:List Seg:=[zo 18 (.mkmap),zm 6 18]
def c78k61:=kk 116 Mb c78r61
def c78s62:ICode:=(.seq c78k61 c78s60)
def c78r63:List Seg:=[zo 16 (.mkagg (List.replicate 13 (.int .i64 0)) []),zo 17 (.box 16),zm 5 17]
def c78k63:=kk 116 Bs c78r63
def c78s64:ICode:=(.seq c78k63 c78s62)
def c78r65:List Seg:=[zo 2 (.box 0),zo 4 (.mv (.c .nilptr))]
def c78k65:=kk 116 Az c78r65
def c78b:ICode:=(.seq c78k65 c78s64)
def c78:IFn:=⟨116,[.t 4],c78b⟩
def h78:List (Nat×Nat×List Nat):=[(0,(116,Az)),(1,(116,Bs)),(2,(116,Mb)),(3,(116,V5)),(4,(116,Qe)),(5,(116,Qe)),(6,(116,JK)),(7,(116,JK)),(8,(116,JK)),(9,(116,JK)),(10,(116,JK)),(11,(116,TQ)),(12,(116,TQ)),(13,(116,MA)),(14,(116,MA)),(15,(116,Ga)),(16,(116,Ga)),(17,(116,Vc)),(18,(116,F9)),(19,(116,F9)),(20,(116,Aaw)),(21,(116,Aai)),(22,(116,Vl)),(23,(116,Vl)),(24,(116,Ob)),(25,(116,Ob)),(26,(116,Ub)),(27,(116,F9)),(28,(116,Ga)),(29,(116,Qe)),(30,(116,[5]))]
def c79r0:List Seg:=[zo 5 (.mkslice 0 [] []),zm 6 0,zo 7 (.app 1 8 5 6),zm 2 7]
def c79k0:=kk 8 [0] c79r0
def c79s1:ICode:=(.seq c79k0 .ret)
def c79r2:List Seg:=[zo 2 (.mv (.c .nilslice))]
def c79k2:=kk 8 [] c79r2
def c79s3:ICode:=(.cond (.t 4) (.seq c79k2 .ret) .skip)
def c79r4:List Seg:=[zm 3 0,zo 4 (.eqv false .slice 3 (.c .nilslice))]
def c79k4:=kk 8 [0] c79r4
def c79s5:ICode:=(.seq (.seq c79k4 c79s3) c79s1)
def c79r6:List Seg:=[zo 2 (.mv (.c .nilslice))]
def c79k6:=kk 8 [0] c79r6
def c79b:ICode:=(.seq c79k6 c79s5)
def c79:IFn:=⟨8,[.t 2],c79b⟩
def h79:List (Nat×Nat×List Nat):=[(0,(8,[0])),(1,(8,[0])),(2,(8,[])),(3,(8,[0]))]
def c83r0:List Seg:=[zm 5 0,zm 6 1,zo 7 (.call [] (.c (.func 103 [])) [5,6]),zo 8 (.bin .geq 7 (ci 0)),zm 4 8]
def c83k0:=kk 9 Az c83r0
def c83s1:ICode:=(.seq c83k0 .ret)
def c83r2:List Seg:=[zo 4 (.mv (.c (.bool false)))]
def c83k2:=kk 9 Az c83r2
def c83b:ICode:=(.seq c83k2 c83s1)
def c83:IFn:=⟨9,[.t 4],c83b⟩
def h83:List (Nat×Nat×List Nat):=[(0,(9,Az)),(1,(9,Az))]
def c91r0:List Seg:=[zo 4 (.mv (ci 0))]
def c91k0:=kk 36 [] c91r0
def c91s1:ICode:=(.seq c91k0 .ret)
def c91r2:List Seg:=[zo 4 (.mv (.c (.int .i64 (-1))))]
def c91k2:=kk 36 [] c91r2
def c91s3:ICode:=(.cond (.t 35) (.seq c91k2 .ret) .skip)
def c91r4:List Seg:=[zm 31 0,zo 32 (.len 0 31),zm 33 1,zo 34 (.len 0 33),zo 35 (.bin .lss 32 34)]
def c91k4:=kk 36 Az c91r4
def c91s5:ICode:=(.seq (.seq c91k4 c91s3) c91s1)
def c91r7:List Seg:=[zo 30 (.bin .add 11 (ci 1)),zm 11 30]
def c91k7:=kk 36 Qa c91r7
def c91r8:List Seg:=[zm 29 8,zm 4 29]
def c91k8:=kk 36 [8] c91r8
def c91s9:ICode:=(.cond (.t 28) (.seq c91k8 .ret) .skip)
def c91r10:List Seg:=[zm 27 8,zo 28 (.bin .neq 27 (ci 0))]
def c91k10:=kk 36 Abg c91r10
def c91s11:ICode:=(.seq c91k10 c91s9)
def c91r12:List Seg:=[zm 24 6,zm 25 7,zo 26 (.call [] (.c (.func 105 [])) [24,25]),zm 8 26]
def c91k12:=kk 36 Aah c91r12
def c91s13:ICode:=(.seq c91k12 c91s11)
def c91r14:List Seg:=[zm 20 1,zm 21 5,zo 22 (.idxS 1 20 21),zo 23 (.load1 22),zm 7 23]
def c91k14:=kk 36 Wt c91r14
def c91s15:ICode:=(.seq c91k14 c91s13)
def c91r16:List Seg:=[zo 4 (.mv (ci 1))]
def c91k16:=kk 36 [] c91r16
def c91s17:ICode:=(.cond (.t 19) (.seq c91k16 .ret) .skip)
def c91r18:List Seg:=[zm 16 5,zm 17 1,zo 18 (.len 0 17),zo 19 (.bin .geq 16 18)]
def c91k18:=kk 36 Wt c91r18
def c91s19:ICode:=(.seq (.seq c91k18 c91s17) c91s15)
def c91r20:List Seg:=[zm 13 11,zo 14 (.idxS 1 9 11),zo 15 (.load1 14),zm 5 13,zm 6 15]
def c91k20:=kk 36 Qa c91r20
def c91s21:ICode:=(.seq (.block 1 (.seq c91k20 c91s19)) c91k7)
def c91s22:ICode:=(.seq (.cond (.t 12) .skip (.exit 0)) c91s21)
def c91r23:List Seg:=[zo 12 (.bin .lss 11 10)]
def c91k23:=kk 36 Qa c91r23
def c91l6:ICode:=(.seq c91k23 c91s22)
def c91s24:ICode:=(.block 0 (.loop c91l6))
def c91r25:List Seg:=[zm 9 0,zo 10 (.len 0 9),zo 11 (.mv (ci 0))]
def c91k25:=kk 36 Az c91r25
def c91s26:ICode:=(.seq (.seq c91k25 c91s24) c91s5)
def c91r27:List Seg:=[zo 4 (.mv (ci 0))]
def c91k27:=kk 36 Az c91r27
def c91b:ICode:=(.seq c91k27 c91s26)
def c91:IFn:=⟨36,[.t 4],c91b⟩
def h91:List (Nat×Nat×List Nat):=[(0,(36,Az)),(1,(36,Az)),(2,(36,Qa)),(3,(36,Qa)),(4,(36,Wt)),(5,(36,[])),(6,(36,Wt)),(7,(36,Aah)),(8,(36,Abg)),(9,(36,[8])),(10,(36,Qa)),(11,(36,Az)),(12,(36,[])),(13,(36,[]))]
def c92r0:List Seg:=[zm 5 0,zo 6 (.loadN 2 3),zo 7 (.call [] (.c (.func 75 [])) [5,6]),zo 8 (.bin .geq 7 (ci 0)),zm 4 8]
def c92k0:=kk 9 WJ c92r0
def c92s1:ICode:=(.seq c92k0 .ret)
def c92r2:List Seg:=[zo 3 (.box 1),zo 4 (.mv (.c (.bool false)))]
def c92k2:=kk 9 Az c92r2
def c92b:ICode:=(.seq c92k2 c92s1)
def c92:IFn:=⟨9,[.t 4],c92b⟩
def h92:List (Nat×Nat×List Nat):=[(0,(9,Az)),(1,(9,WJ))]
def c93r1:List Seg:=[zo 51 (.bin .add 16 (ci 1)),zm 16 51]
def c93k1:=kk 52 Qh c93r1
def c93s2:ICode:=(.cond (.t 50) .ret .skip)
def c93r3:List Seg:=[zm 42 7,zo 43 (.bin .neq 42 (ci 0)),zm 44 43,.one ⟨some 45,.mv 0,some (44,true)⟩,.one ⟨some 46,.mv 5,some (44,true)⟩,.one ⟨some 47,.mv 7,some (44,true)⟩,.one ⟨some 48,.call [] 45 [46,47],some (44,true)⟩,.one ⟨some 49,.un .not 48,some (44,true)⟩,zo 50 (.pick 44 49 (.c (.bool false)))]
def c93k3:=kk 52 ZD c93r3
def c93s4:ICode:=(.seq c93k3 c93s2)
def c93r5:List Seg:=[zo 7 (.mv (ci 1))]
def c93k5:=kk 52 WH c93r5
def c93r6:List Seg:=[zo 7 (.mv (.c (.int .i64 (-1))))]
def c93k6:=kk 52 WH c93r6
def c93s7:ICode:=(.cond (.t 35) c93k6 .skip)
def c93r8:List Seg:=[zo 36 (.idxA 3 1 4 (ci 0)),zo 37 (.load1 36),zo 38 (.idxA 3 1 4 (ci 2)),zo 39 (.load1 38),zo 40 (.mkagg [.int .i64 0,.int .i64 0] [(0,1,37),(1,1,39)]),zo 41 (.eqv false (.ints 2) 21 40),zm 35 41]
def c93k8:=kk 52 Re c93r8
def c93s9:ICode:=(.cond (.t 22) c93k5 (.seq c93k8 c93s7))
def c93r10:List Seg:=[zo 29 (.idxA 3 1 4 (ci 1)),zo 30 (.load1 29),zo 31 (.idxA 3 1 4 (ci 2)),zo 32 (.load1 31),zo 33 (.mkagg [.int .i64 0,.int .i64 0] [(0,1,30),(1,1,32)]),zo 34 (.eqv false (.ints 2) 21 33),zm 22 34]
def c93k10:=kk 52 Re c93r10
def c93s11:ICode:=(.cond (.t 22) .skip c93k10)
def c93r12:List Seg:=[zo 23 (.idxA 3 1 4 (ci 0)),zo 24 (.load1 23),zo 25 (.idxA 3 1 4 (ci 1)),zo 26 (.load1 25),zo 27 (.mkagg [.int .i64 0,.int .i64 0] [(0,1,24),(1,1,26)]),zo 28 (.eqv false (.ints 2) 21 27),zm 22 28]
def c93k12:=kk 52 Re c93r12
def c93s13:ICode:=(.block 2 (.seq (.seq c93k12 c93s11) c93s9))
def c93r14:List Seg:=[zo 21 (.loadN 2 6)]
def c93k14:=kk 52 Z2 c93r14
def c93s15:ICode:=(.seq (.seq c93k14 c93s13) c93s4)
def c93r16:List Seg:=[zo 7 (.mv (ci 0))]
def c93k16:=kk 52 AaI c93r16
def c93s17:ICode:=(.seq c93k16 c93s15)
def c93r18:List Seg:=[zm 18 16,zo 19 (.idxS 2 14 16),zo 20 (.loadN 2 19),zo 6 (.box (.c (.agg [.int .i64 0,.int .i64 0]))),zm 5 18,.one ⟨none,.storeN 2 6 20,none⟩]
def c93k18:=kk 52 Qh c93r18
def c93s19:ICode:=(.seq (.block 1 (.seq c93k18 c93s17)) c93k1)
def c93s20:ICode:=(.seq (.cond (.t 17) .skip (.exit 0)) c93s19)
def c93r21:List Seg:=[zo 17 (.bin .lss 16 15)]
def c93k21:=kk 52 Qh c93r21
def c93l0:ICode:=(.seq c93k21 c93s20)
def c93s22:ICode:=(.block 0 (.loop c93l0))
def c93r23:List Seg:=[zo 13 (.fieldA 1 1),zo 14 (.load1 13),zo 15 (.len 0 14),zo 16 (.mv (ci 0))]
def c93k23:=kk 52 qq5 c93r23
def c93s24:ICode:=(.seq c93k23 c93s22)
def c93r25:List Seg:=[zo 8 (.fieldA 2 1),zo 9 (.load1 8),zo 10 (.load1 2),zo 11 (.idxS 3 9 10),zo 12 (.loadN 3 11),zo 4 (.box (.c (.agg [.int .i64 0,.int .i64 0,.int .i64 0]))),.one ⟨none,.storeN 3 4 12,none⟩]
def c93k25:=kk 52 qq1 c93r25
def c93b:ICode:=(.seq c93k25 c93s24)
def c93:IFn:=⟨52,[],c93b⟩
def h93:List (Nat×Nat×List Nat):=[(0,(52,qq1)),(1,(52,qq5)),(2,(52,Qh)),(3,(52,Qh)),(4,(52,AaI)),(5,(52,Z2)),(6,(52,Re)),(7,(52,Re)),(8,(52,WH)),(9,(52,Re)),(10,(52,WH)),(11,(52,ZD)),(12,(52,Qh))]
def c94r0:List Seg:=[zm 3 0,zo 4 (.bin .lss 3 (.c (.int .i64 (-100)))),zm 5 4,.one ⟨some 6,.mv 0,some (5,false)⟩,.one ⟨some 7,.bin .gtr 6 (ci 100),some (5,false)⟩,zo 8 (.pick 5 (.c (.bool true)) 7),zm 2 8]
def c94k0:=kk 9 [0] c94r0
def c94s1:ICode:=(.seq c94k0 .ret)
def c94r2:List Seg:=[zo 2 (.mv (.c (.bool false)))]
def c94k2:=kk 9 [0] c94r2
def c94b:ICode:=(.seq c94k2 c94s1)
def c94:IFn:=⟨9,[.t 2],c94b⟩
def h94:List (Nat×Nat×List Nat):=[(0,(9,[0])),(1,(9,[0]))]
def c95r0:List Seg:=[zo 5 (.loadN 2 2),zo 6 (.fieldA 0 3),zo 7 (.load1 6),zo 8 (.un .neg 7),zo 9 (.fieldA 1 3),zo 10 (.load1 9),zo 11 (.mkagg [.int .i64 0,.int .i64 0] [(0,1,8),(1,1,10)]),zo 12 (.call [] (.c (.func 97 [])) [5,11]),.one ⟨none,.storeN 2 4 12,none⟩]
def c95k0:=kk 13 Bm c95r0
def c95s1:ICode:=(.seq c95k0 .ret)
def c95r2:List Seg:=[zo 2 (.box 0),zo 3 (.box 1),zo 4 (.box (.c (.agg [.int .i64 0,.int .i64 0])))]
def c95k2:=kk 13 Az c95r2
def c95b:ICode:=(.seq c95k2 c95s1)
def c95:IFn:=⟨13,[.cellN 4 2],c95b⟩
def h95:List (Nat×Nat×List Nat):=[(0,(13,Az)),(1,(13,Bm))]
def c96r0:List Seg:=[zo 10 (.loadN 22 1),.one ⟨none,.storeN 22 0 10,none⟩]
def c96k0:=kk 11 Az c96r0
def c96s1:ICode:=(.seq c96k0 .ret)
def c96r3:List Seg:=[zo 9 (.bin .add 3 (ci 1)),zm 3 9]
def c96k3:=kk 11 qq2 c96r3
def c96r4:List Seg:=[zm 6 2,zo 7 (.loadN 2 (.c (.ptr 0 0))),zo 8 (.idxA 11 2 1 6),.one ⟨none,.storeN 2 8 7,none⟩]
def c96k4:=kk 11 qq0 c96r4
def c96r5:List Seg:=[zm 5 3,zm 2 5]
def c96k5:=kk 11 qq2 c96r5
def c96s6:ICode:=(.seq (.block 1 (.seq c96k5 c96k4)) c96k3)
def c96s7:ICode:=(.seq (.cond (.t 4) .skip (.exit 0)) c96s6)
def c96r8:List Seg:=[zo 4 (.bin .lss 3 (ci 11))]
def c96k8:=kk 11 qq2 c96r8
def c96l2:ICode:=(.seq c96k8 c96s7)
def c96s9:ICode:=(.block 0 (.loop c96l2))
def c96r10:List Seg:=[zo 3 (.mv (ci 0))]
def c96k10:=kk 11 Az c96r10
def c96s11:ICode:=(.seq (.seq c96k10 c96s9) c96s1)
def c96r12:List Seg:=[zo 1 (.box (.c (.agg (List.replicate 22 (.int .i64 0)))))]
def c96k12:=kk 11 [0] c96r12
def c96s13:ICode:=(.seq c96k12 c96s11)
def c96r14:List Seg:=[zo 0 (.box (.c (.agg (List.replicate 22 (.int .i64 0)))))]
def c96k14:=kk 11 [] c96r14
def c96b:ICode:=(.seq c96k14 c96s13)
def c96:IFn:=⟨11,[.cellN 0 22],c96b⟩
def h96:List (Nat×Nat×List Nat):=[(0,(11,[])),(1,(11,[0])),(2,(11,Az)),(3,(11,qq2)),(4,(11,qq2)),(5,(11,qq0)),(6,(11,qq2)),(7,(11,Az))]
def c97r0:List Seg:=[zo 11 (.fieldA 0 2),zo 12 (.load1 11),zo 13 (.fieldA 1 5),zo 14 (.load1 13),zo 15 (.bin .mul 12 14),zo 16 (.fieldA 0 3),zo 17 (.load1 16),zo 18 (.fieldA 0 5),zo 19 (.load1 18),zo 20 (.bin .mul 17 19),zo 21 (.bin .add 15 20),zo 22 (.fieldA 1 2),zo 23 (.load1 22),zo 24 (.fieldA 1 5),zo 25 (.load1 24),zo 26 (.bin .mul 23 25),zo 27 (.call [] (.c (.func 106 [])) [21,26]),.one ⟨none,.storeN 2 4 27,none⟩]
def c97k0:=kk 28 EM c97r0
def c97s1:ICode:=(.seq c97k0 .ret)
def c97r2:List Seg:=[zo 6 (.fieldA 1 2),zo 7 (.load1 6),zo 8 (.fieldA 1 3),zo 9 (.load1 8),zo 10 (.call [] (.c (.func 106 [])) [7,9]),zo 5 (.box (.c (.agg [.int .i64 0,.int .i64 0]))),.one ⟨none,.storeN 2 5 10,none⟩]
def c97k2:=kk 28 Bm c97r2
def c97s3:ICode:=(.seq c97k2 c97s1)
def c97r4:List Seg:=[zo 2 (.box 0),zo 3 (.box 1),zo 4 (.box (.c (.agg [.int .i64 0,.int .i64 0])))]
def c97k4:=kk 28 Az c97r4
def c97b:ICode:=(.seq c97k4 c97s3)
def c97:IFn:=⟨28,[.cellN 4 2],c97b⟩
def h97:List (Nat×Nat×List Nat):=[(0,(28,Az)),(1,(28,Bm)),(2,(28,EM))]
def c98r0:List Seg:=[zm 68 7,zm 4 68]
def c98k0:=kk 69 [7] c98r0
def c98s1:ICode:=(.seq c98k0 .ret)
def c98r3:List Seg:=[zo 67 (.bin .add 50 (ci 1)),zm 50 67]
def c98k3:=kk 69 Gr c98r3
def c98r4:List Seg:=[zm 57 7,zm 58 10,zm 59 5,zm 60 9,zo 61 (.idxS 1 59 60),zo 62 (.load1 61),zm 63 1,zo 64 (.idxS 2 62 63),zo 65 (.loadN 2 64),zo 66 (.idxS 2 57 58),.one ⟨none,.storeN 2 66 65,none⟩]
def c98k4:=kk 69 ML c98r4
def c98s5:ICode:=(.cond (.t 56) c98k4 .skip)
def c98r6:List Seg:=[zm 55 10,zo 56 (.bin .geq 55 (ci 0))]
def c98k6:=kk 69 ML c98r6
def c98s7:ICode:=(.seq c98k6 c98s5)
def c98r8:List Seg:=[zm 52 50,zo 53 (.idxS 1 48 50),zo 54 (.load1 53),zm 9 52,zm 10 54]
def c98k8:=kk 69 Gr c98r8
def c98s9:ICode:=(.seq (.block 5 (.seq c98k8 c98s7)) c98k3)
def c98s10:ICode:=(.seq (.cond (.t 51) .skip (.exit 4)) c98s9)
def c98r11:List Seg:=[zo 51 (.bin .lss 50 49)]
def c98k11:=kk 69 Gr c98r11
def c98l2:ICode:=(.seq c98k11 c98s10)
def c98s12:ICode:=(.block 4 (.loop c98l2))
def c98r13:List Seg:=[zm 45 5,zm 46 1,zo 47 (.loadN 2 (.c (.ptr 0 0))),zo 48 (.call [] (.c (.func 64 [])) [45,46,47]),zo 49 (.len 0 48),zo 50 (.mv (ci 0))]
def c98k13:=kk 69 LY c98r13
def c98s14:ICode:=(.seq (.seq c98k13 c98s12) c98s1)
def c98r16:List Seg:=[zo 44 (.bin .add 37 (ci 1)),zm 37 44]
def c98k16:=kk 69 Gi c98r16
def c98r17:List Seg:=[zm 40 7,zm 41 8,zo 42 (.loadN 2 (.c (.ptr 0 0))),zo 43 (.idxS 2 40 41),.one ⟨none,.storeN 2 43 42,none⟩]
def c98k17:=kk 69 Vy c98r17
def c98r18:List Seg:=[zm 39 37,zm 8 39]
def c98k18:=kk 69 Gi c98r18
def c98s19:ICode:=(.seq (.block 3 (.seq c98k18 c98k17)) c98k16)
def c98s20:ICode:=(.seq (.cond (.t 38) .skip (.exit 2)) c98s19)
def c98r21:List Seg:=[zo 38 (.bin .lss 37 36)]
def c98k21:=kk 69 Gi c98r21
def c98l15:ICode:=(.seq c98k21 c98s20)
def c98s22:ICode:=(.block 2 (.loop c98l15))
def c98r23:List Seg:=[zm 35 7,zo 36 (.len 0 35),zo 37 (.mv (ci 0))]
def c98k23:=kk 69 LY c98r23
def c98s24:ICode:=(.seq (.seq c98k23 c98s22) c98s14)
def c98r25:List Seg:=[zm 33 1,zo 34 (.make [.int .i64 0,.int .i64 0] 16 33 33),zm 7 34]
def c98k25:=kk 69 QC c98r25
def c98s26:ICode:=(.seq c98k25 c98s24)
def c98r28:List Seg:=[zo 32 (.bin .add 13 (ci 1)),zm 13 32]
def c98k28:=kk 69 qq6 c98r28
def c98r29:List Seg:=[.grp [(zn 16 5,0),(zn 17 0,0),(zn 18 6,0),(zp 19 (.idxS 22 17 18),6),(zn 20 1,0),(zn 21 1,0),(zp 22 (.sliceA 11 2 19 none (some 20) (some 21)),62),(zn 23 0,0),(zn 24 6,0),(zp 25 (.idxS 22 23 24),384),(zp 26 (.idxA 11 2 25 (ci 10)),896),(zp 27 (.loadN 2 26),1920),(zp 28 (.mkslice 1 [.int .i64 0,.int .i64 0] [(0,2,27)]),3968),(zp 29 (.app 2 16 22 28),8190),(zp 30 (.mkslice 1 [.nilslice] [(0,1,29)]),16382)],zo 31 (.app 1 24 16 30),zm 5 31]
def c98k29:=kk 69 qq7 c98r29
def c98r30:List Seg:=[zm 15 13,zm 6 15]
def c98k30:=kk 69 qq6 c98r30
def c98s31:ICode:=(.seq (.block 1 (.seq c98k30 c98k29)) c98k28)
def c98s32:ICode:=(.seq (.cond (.t 14) .skip (.exit 0)) c98s31)
def c98r33:List Seg:=[zo 14 (.bin .lss 13 12)]
def c98k33:=kk 69 qq6 c98r33
def c98l27:ICode:=(.seq c98k33 c98s32)
def c98s34:ICode:=(.block 0 (.loop c98l27))
def c98r35:List Seg:=[zm 11 0,zo 12 (.len 0 11),zo 13 (.mv (ci 0))]
def c98k35:=kk 69 Cw c98r35
def c98s36:ICode:=(.seq (.seq c98k35 c98s34) c98s26)
def c98r37:List Seg:=[zo 5 (.mv (.c .nilslice))]
def c98k37:=kk 69 Az c98r37
def c98s38:ICode:=(.seq c98k37 c98s36)
def c98r39:List Seg:=[zo 4 (.mv (.c .nilslice))]
def c98k39:=kk 69 Az c98r39
def c98b:ICode:=(.seq c98k39 c98s38)
def c98:IFn:=⟨69,[.t 4],c98b⟩
def h98:List (Nat×Nat×List Nat):=[(0,(69,Az)),(1,(69,Az)),(2,(69,Cw)),(3,(69,qq6)),(4,(69,qq6)),(5,(69,qq7)),(6,(69,qq6)),(7,(69,QC)),(8,(69,LY)),(9,(69,Gi)),(10,(69,Gi)),(11,(69,Vy)),(12,(69,Gi)),(13,(69,LY)),(14,(69,Gr)),(15,(69,Gr)),(16,(69,ML)),(17,(69,ML)),(18,(69,Gr)),(19,(69,[7]))]
def c99r0:List Seg:=[zo 17 (.fieldA 0 5),zo 18 (.load1 17),zo 19 (.fieldA 0 6),zo 20 (.load1 19),zo 21 (.bin .mul 18 20),zo 22 (.fieldA 1 5),zo 23 (.load1 22),zo 24 (.fieldA 1 6),zo 25 (.load1 24),zo 26 (.bin .mul 23 25),zo 27 (.mkagg [.int .i64 0,.int .i64 0] [(0,1,21),(1,1,26)]),.one ⟨none,.storeN 2 4 27,none⟩]
def c99k0:=kk 28 UB c99r0
def c99s1:ICode:=(.seq c99k0 .ret)
def c99r2:List Seg:=[.grp [(zp 7 (.fieldA 0 2),0),(zp 8 (.load1 7),1),(zp 9 (.fieldA 1 3),0),(zp 10 (.load1 9),4),(zp 11 (.call [] (.c (.func 106 [])) [8,10]),15),(zp 12 (.fieldA 0 3),0),(zp 13 (.load1 12),32),(zp 14 (.fieldA 1 2),0),(zp 15 (.load1 14),128),(zp 16 (.call [] (.c (.func 106 [])) [13,15]),511),(zp 5 (.box (.c (.agg [.int .i64 0,.int .i64 0]))),0),(zp 6 (.box (.c (.agg [.int .i64 0,.int .i64 0]))),0)],.one ⟨none,.storeN 2 5 11,none⟩,.one ⟨none,.storeN 2 6 16,none⟩]
def c99k2:=kk 28 Bm c99r2
def c99s3:ICode:=(.seq c99k2 c99s1)
def c99r4:List Seg:=[zo 2 (.box 0),zo 3 (.box 1),zo 4 (.box (.c (.agg [.int .i64 0,.int .i64 0])))]
def c99k4:=kk 28 Az c99r4
def c99b:ICode:=(.seq c99k4 c99s3)
def c99:IFn:=⟨28,[.cellN 4 2],c99b⟩
def h99:List (Nat×Nat×List Nat):=[(0,(28,Az)),(1,(28,Bm)),(2,(28,UB))]
def c100r0:List Seg:=[zm 18 0,zm 3 18]
def c100k0:=kk 19 [0] c100r0
def c100s1:ICode:=(.seq c100k0 .ret)
def c100r3:List Seg:=[zo 12 (.load1 1),zm 13 0,zo 14 (.nilck 12),zo 15 (.fieldA 0 14),zo 16 (.idxA 6 1 15 13),zo 17 (.load1 16),zm 0 17]
def c100k3:=kk 19 Az c100r3
def c100s4:ICode:=(.block 1 c100k3)
def c100s5:ICode:=(.cond (.t 11) .skip (.exit 0))
def c100r6:List Seg:=[zo 4 (.load1 1),zm 5 0,zo 6 (.nilck 4),zo 7 (.fieldA 0 6),zo 8 (.idxA 6 1 7 5),zo 9 (.load1 8),zm 10 0,zo 11 (.bin .neq 9 10)]
def c100k6:=kk 19 Az c100r6
def c100l2:ICode:=(.seq (.seq c100k6 c100s5) c100s4)
def c100s7:ICode:=(.seq (.block 0 (.loop c100l2)) c100s1)
def c100r8:List Seg:=[zo 3 (.mv (ci 0))]
def c100k8:=kk 19 Az c100r8
def c100b:ICode:=(.seq c100k8 c100s7)
def c100:IFn:=⟨19,[.t 3],c100b⟩
def h100:List (Nat×Nat×List Nat):=[(0,(19,Az)),(1,(19,Az)),(2,(19,Az)),(3,(19,[0]))]
def c103r0:List Seg:=[zo 4 (.mv (.c (.int .i64 (-1))))]
def c103k0:=kk 19 [] c103r0
def c103s1:ICode:=(.seq c103k0 .ret)
def c103r3:List Seg:=[zo 18 (.bin .add 8 (ci 1)),zm 8 18]
def c103k3:=kk 19 Qj c103r3
def c103r4:List Seg:=[zm 17 5,zm 4 17]
def c103k4:=kk 19 [5] c103r4
def c103s5:ICode:=(.cond (.t 16) (.seq c103k4 .ret) .skip)
def c103r6:List Seg:=[zm 11 1,zm 12 0,zm 13 5,zo 14 (.idxS 1 12 13),zo 15 (.load1 14),zo 16 (.call [] 11 [15])]
def c103k6:=kk 19 AbH c103r6
def c103s7:ICode:=(.seq c103k6 c103s5)
def c103r8:List Seg:=[zm 10 8,zm 5 10]
def c103k8:=kk 19 Qj c103r8
def c103s9:ICode:=(.seq (.block 1 (.seq c103k8 c103s7)) c103k3)
def c103s10:ICode:=(.seq (.cond (.t 9) .skip (.exit 0)) c103s9)
def c103r11:List Seg:=[zo 9 (.bin .lss 8 7)]
def c103k11:=kk 19 Qj c103r11
def c103l2:ICode:=(.seq c103k11 c103s10)
def c103s12:ICode:=(.block 0 (.loop c103l2))
def c103r13:List Seg:=[zm 6 0,zo 7 (.len 0 6),zo 8 (.mv (ci 0))]
def c103k13:=kk 19 Az c103r13
def c103s14:ICode:=(.seq (.seq c103k13 c103s12) c103s1)
def c103r15:List Seg:=[zo 4 (.mv (ci 0))]
def c103k15:=kk 19 Az c103r15
def c103b:ICode:=(.seq c103k15 c103s14)
def c103:IFn:=⟨19,[.t 4],c103b⟩
def h103:List (Nat×Nat×List Nat):=[(0,(19,Az)),(1,(19,Az)),(2,(19,Qj)),(3,(19,Qj)),(4,(19,AbH)),(5,(19,[5])),(6,(19,Qj)),(7,(19,[]))]
def c105r0:List Seg:=[zo 4 (.mv (ci 0))]
def c105k0:=kk 20 [] c105r0
def c105s1:ICode:=(.seq c105k0 .ret)
def c105r2:List Seg:=[zo 4 (.mv (ci 1))]
def c105k2:=kk 20 [] c105r2
def c105s3:ICode:=(.cond (.t 19) (.seq c105k2 .ret) .skip)
def c105r4:List Seg:=[zm 17 0,zm 18 1,zo 19 (.bin .gtr 17 18)]
def c105k4:=kk 20 Az c105r4
def c105s5:ICode:=(.seq (.seq c105k4 c105s3) c105s1)
def c105r6:List Seg:=[zo 4 (.mv (.c (.int .i64 (-1))))]
def c105k6:=kk 20 [] c105r6
def c105s7:ICode:=(.cond (.t 16) (.seq c105k6 .ret) .skip)
def c105r8:List Seg:=[zm 14 0,zm 15 1,zo 16 (.bin .lss 14 15)]
def c105k8:=kk 20 Az c105r8
def c105s9:ICode:=(.seq (.seq c105k8 c105s7) c105s5)
def c105r10:List Seg:=[zo 4 (.mv (ci 1))]
def c105k10:=kk 20 [] c105r10
def c105s11:ICode:=(.cond (.t 13) (.seq c105k10 .ret) .skip)
def c105r12:List Seg:=[zm 13 6]
def c105k12:=kk 20 Abi c105r12
def c105s13:ICode:=(.seq (.seq c105k12 c105s11) c105s9)
def c105r14:List Seg:=[zo 4 (.mv (.c (.int .i64 (-1))))]
def c105k14:=kk 20 [] c105r14
def c105s15:ICode:=(.seq c105k14 .ret)
def c105r16:List Seg:=[zo 4 (.mv (ci 0))]
def c105k16:=kk 20 [] c105r16
def c105s17:ICode:=(.cond (.t 12) (.seq c105k16 .ret) .skip)
def c105r18:List Seg:=[zm 12 6]
def c105k18:=kk 20 [6] c105r18
def c105s19:ICode:=(.cond (.t 11) (.seq (.seq c105k18 c105s17) c105s15) .skip)
def c105r20:List Seg:=[zm 11 5]
def c105k20:=kk 20 EC c105r20
def c105s21:ICode:=(.seq (.seq c105k20 c105s19) c105s13)
def c105r22:List Seg:=[zm 9 1,zo 10 (.call [] (.c (.func 107 [])) [9]),zm 6 10]
def c105k22:=kk 20 Cw c105r22
def c105s23:ICode:=(.seq c105k22 c105s21)
def c105r24:List Seg:=[zm 7 0,zo 8 (.call [] (.c (.func 107 [])) [7]),zm 5 8]
def c105k24:=kk 20 Az c105r24
def c105s25:ICode:=(.seq c105k24 c105s23)
def c105r26:List Seg:=[zo 4 (.mv (ci 0))]
def c105k26:=kk 20 Az c105r26
def c105b:ICode:=(.seq c105k26 c105s25)
def c105:IFn:=⟨20,[.t 4],c105b⟩
def h105:List (Nat×Nat×List Nat):=[(0,(20,Az)),(1,(20,Az)),(2,(20,Cw)),(3,(20,EC)),(4,(20,[6])),(5,(20,[])),(6,(20,[])),(7,(20,Abi)),(8,(20,[])),(9,(20,Az)),(10,(20,[])),(11,(20,Az)),(12,(20,[])),(13,(20,[]))]
def c106r0:List Seg:=[.grp [(zn 23 0,0),(zn 24 5,0),(zp 25 (.bin .quo 23 24),3),(zn 26 1,0),(zn 27 5,0),(zp 28 (.bin .quo 26 27),24)],zo 29 (.mkagg [.int .i64 0,.int .i64 0] [(0,1,25),(1,1,28)]),.one ⟨none,.storeN 2 4 29,none⟩]
def c106k0:=kk 30 qq4 c106r0
def c106s1:ICode:=(.seq c106k0 .ret)
def c106r2:List Seg:=[zm 21 5,zo 22 (.un .neg 21),zm 5 22]
def c106k2:=kk 30 qq4 c106r2
def c106s3:ICode:=(.cond (.t 20) c106k2 .skip)
def c106r4:List Seg:=[zm 19 1,zo 20 (.bin .lss 19 (ci 0))]
def c106k4:=kk 30 qq4 c106r4
def c106s5:ICode:=(.seq (.seq c106k4 c106s3) c106s1)
def c106r6:List Seg:=[zm 17 5,zo 18 (.un .neg 17),zm 5 18]
def c106k6:=kk 30 qq4 c106r6
def c106s7:ICode:=(.cond (.t 16) c106k6 .skip)
def c106r8:List Seg:=[zm 15 5,zo 16 (.bin .lss 15 (ci 0))]
def c106k8:=kk 30 qq4 c106r8
def c106s9:ICode:=(.seq (.seq c106k8 c106s7) c106s5)
def c106r11:List Seg:=[.grp [(zn 11 6,0),(zn 12 5,0),(zn 13 6,0),(zp 14 (.bin .rem 12 13),6),(zn 5 11,3)],zm 6 14]
def c106k11:=kk 30 qq3 c106r11
def c106s12:ICode:=(.block 1 c106k11)
def c106s13:ICode:=(.cond (.t 10) .skip (.exit 0))
def c106r14:List Seg:=[zm 9 6,zo 10 (.bin .neq 9 (ci 0))]
def c106k14:=kk 30 qq3 c106r14
def c106l10:ICode:=(.seq (.seq c106k14 c106s13) c106s12)
def c106s15:ICode:=(.seq (.block 0 (.loop c106l10)) c106s9)
def c106r16:List Seg:=[zm 7 0,zm 8 1,zm 5 7,zm 6 8]
def c106k16:=kk 30 qq5 c106r16
def c106s17:ICode:=(.seq c106k16 c106s15)
def c106r18:List Seg:=[zo 4 (.box (.c (.agg [.int .i64 0,.int .i64 0])))]
def c106k18:=kk 30 Az c106r18
def c106b:ICode:=(.seq c106k18 c106s17)
def c106:IFn:=⟨30,[.cellN 4 2],c106b⟩
def h106:List (Nat×Nat×List Nat):=[(0,(30,Az)),(1,(30,qq5)),(2,(30,qq3)),(3,(30,qq3)),(4,(30,qq4)),(5,(30,qq4)),(6,(30,qq4)),(7,(30,qq4)),(8,(30,qq4))]
def c107r0:List Seg:=[zm 3 0,zm 4 0,zo 5 (.bin .neq 3 4),zm 2 5]
def c107k0:=kk 6 [0] c107r0
def c107s1:ICode:=(.seq c107k0 .ret)
def c107r2:List Seg:=[zo 2 (.mv (.c (.bool false)))]
def c107k2:=kk 6 [0] c107r2
def c107b:ICode:=(.seq c107k2 c107s1)
def c107:IFn:=⟨6,[.t 2],c107b⟩
def h107:List (Nat×Nat×List Nat):=[(0,(6,[0])),(1,(6,[0]))]
def c123r0:List Seg:=[zo 17 (.loadN 2 2),zo 18 (.fieldA 1 3),zo 19 (.load1 18),zo 20 (.fieldA 0 3),zo 21 (.load1 20),zo 22 (.mkagg [.int .i64 0,.int .i64 0] [(0,1,19),(1,1,21)]),zo 23 (.call [] (.c (.func 99 [])) [17,22]),.one ⟨none,.storeN 2 4 23,none⟩]
def c123k0:=kk 24 Bm c123r0
def c123s1:ICode:=(.seq c123k0 .ret)
def c123r2:List Seg:=[zo 8 (.loadN 2 2),zo 9 (.fieldA 1 3),zo 10 (.load1 9),zo 11 (.un .neg 10),zo 12 (.fieldA 0 3),zo 13 (.load1 12),zo 14 (.un .neg 13),zo 15 (.mkagg [.int .i64 0,.int .i64 0] [(0,1,11),(1,1,14)]),zo 16 (.call [] (.c (.func 99 [])) [8,15]),.one ⟨none,.storeN 2 4 16,none⟩]
def c123k2:=kk 24 Bm c123r2
def c123s3:ICode:=(.cond (.t 7) (.seq c123k2 .ret) .skip)
def c123r4:List Seg:=[zo 5 (.fieldA 0 3),zo 6 (.load1 5),zo 7 (.bin .lss 6 (ci 0))]
def c123k4:=kk 24 Bm c123r4
def c123s5:ICode:=(.seq (.seq c123k4 c123s3) c123s1)
def c123r6:List Seg:=[zo 2 (.box 0),zo 3 (.box 1),zo 4 (.box (.c (.agg [.int .i64 0,.int .i64 0])))]
def c123k6:=kk 24 Az c123r6
def c123b:ICode:=(.seq c123k6 c123s5)
def c123:IFn:=⟨24,[.cellN 4 2],c123b⟩
def h123:List (Nat×Nat×List Nat):=[(0,(24,Az)),(1,(24,Bm)),(2,(24,Bm)),(3,(24,Bm))]
open Go.Proofs
def Ao(l:List (Nat×Nat×List Nat))(n:Nat):Option (Nat×List Nat):=l.lookup n
def tabF:List (Nat×IFn):=[(15,c15),(16,c16),(17,c17),(19,c19),(20,c20),(22,c22),(23,c23),(24,c24),(27,c27),(28,c28),(30,c30),(31,c31),(32,c32),(33,c33),(34,c34),(35,c35),(40,c40),(41,c41),(50,c50),(59,c59),(60,c60),(61,c61),(62,c62),(63,c63),(64,c64),(66,c66),(67,c67),(68,c68),(69,c69),(70,c70),(72,c72),(73,c73),(74,c74),(75,c75),(78,c78),(79,c79),(83,c83),(91,c91),(92,c92),(93,c93),(94,c94),(95,c95),(96,c96),(97,c97),(98,c98),(99,c99),(100,c100),(103,c103),(105,c105),(106,c106),(107,c107),(123,c123)]
def F(n:Nat):Option IFn:=tabF.lookup n
theorem ok15:cfn Tryd.prog [0] (Ao h15) Tryd.f15=some c15:=by kernel_rfl
theorem F15:F 15=some c15:=by kernel_rfl
theorem ok16:cfn Tryd.prog [0] (Ao h16) Tryd.f16=some c16:=by kernel_rfl
theorem ok17:cfn Tryd.prog [0] (Ao h17) Tryd.f17=some c17:=by kernel_rfl
theorem F17:F 17=some c17:=by kernel_rfl
theorem ok19:cfn Tryd.prog [0] (Ao h19) Tryd.f19=some c19:=by kernel_rfl
theorem ok20:cfn Tryd.prog [0] (Ao h20) Tryd.f20=some c20:=by kernel_rfl
theorem F20:F 20=some c20:=by kernel_rfl
theorem ok22:cfn Tryd.prog [0] (Ao h22) Tryd.f22=some c22:=by kernel_rfl
theorem F22:F 22=some c22:=by kernel_rfl
theorem ok23:cfn Tryd.prog [0] (Ao h23) Tryd.f23=some c23:=by kernel_rfl
theorem F23:F 23=some c23:=by kernel_rfl
theorem ok24:cfn Tryd.prog [0] (Ao h24) Tryd.f24=some c24:=by kernel_rfl
theorem F24:F 24=some c24:=by kernel_rfl
theorem ok27:cfn Tryd.prog [0] (Ao h27) Tryd.f27=some c27:=by kernel_rfl
theorem ok28:cfn Tryd.prog [0] (Ao h28) Tryd.f28=some c28:=by kernel_rfl
theorem ok30:cfn Tryd.prog [0] (Ao h30) Tryd.f30=some c30:=by kernel_rfl
theorem F30:F 30=some c30:=by kernel_rfl
theorem ok31:cfn Tryd.prog [0] (Ao h31) Tryd.f31=some c31:=by kernel_rfl
theorem F31:F 31=some c31:=by kernel_rfl
theorem ok32:cfn Tryd.prog [0] (Ao h32) Tryd.f32=some c32:=by kernel_rfl
theorem F32:F 32=some c32:=by kernel_rfl
theorem ok33:cfn Tryd.prog [0] (Ao h33) Tryd.f33=some c33:=by kernel_rfl
theorem F33:F 33=some c33:=by kernel_rfl
theorem ok34:cfn Tryd.prog [0] (Ao h34) Tryd.f34=some c34:=by kernel_rfl
theorem F34:F 34=some c34:=by kernel_rfl
theorem ok35:cfn Tryd.prog [0] (Ao h35) Tryd.f35=some c35:=by kernel_rfl
theorem F35:F 35=some c35:=by kernel_rfl
theorem ok40:cfn Tryd.prog [0] (Ao h40) Tryd.f40=some c40:=by kernel_rfl
theorem F40:F 40=some c40:=by kernel_rfl
theorem ok41:cfn Tryd.prog [0] (Ao h41) Tryd.f41=some c41:=by kernel_rfl
theorem ok50:cfn Tryd.prog [0] (Ao h50) Tryd.f50=some c50:=by kernel_rfl
theorem ok59:cfn Tryd.prog [0] (Ao h59) Tryd.f59=some c59:=by kernel_rfl
theorem F59:F 59=some c59:=by kernel_rfl
theorem ok60:cfn Tryd.prog [0] (Ao h60) Tryd.f60=some c60:=by kernel_rfl
theorem F60:F 60=some c60:=by kernel_rfl
theorem ok61:cfn Tryd.prog [0] (Ao h61) Tryd.f61=some c61:=by kernel_rfl
theorem F61:F 61=some c61:=by kernel_rfl
theorem ok62:cfn Tryd.prog [0] (Ao h62) Tryd.f62=some c62:=by kernel_rfl
theorem F62:F 62=some c62:=by kernel_rfl
theorem ok63:cfn Tryd.prog [0] (Ao h63) Tryd.f63=some c63:=by kernel_rfl
theorem F63:F 63=some c63:=by kernel_rfl
theorem ok64:cfn Tryd.prog [0] (Ao h64) Tryd.f64=some c64:=by kernel_rfl
theorem F64:F 64=some c64:=by kernel_rfl
theorem ok66:cfn Tryd.prog [0] (Ao h66) Tryd.f66=some c66:=by kernel_rfl
theorem F66:F 66=some c66:=by kernel_rfl
theorem ok67:cfn Tryd.prog [0] (Ao h67) Tryd.f67=some c67:=by kernel_rfl
theorem F67:F 67=some c67:=by kernel_rfl
theorem ok68:cfn Tryd.prog [0] (Ao h68) Tryd.f68=some c68:=by kernel_rfl
theorem F68:F 68=some c68:=by kernel_rfl
theorem ok69:cfn Tryd.prog [0] (Ao h69) Tryd.f69=some c69:=by kernel_rfl
theorem F69:F 69=some c69:=by kernel_rfl
theorem ok70:cfn Tryd.prog [0] (Ao h70) Tryd.f70=some c70:=by kernel_rfl
theorem F70:F 70=some c70:=by kernel_rfl
theorem ok72:cfn Tryd.prog [0] (Ao h72) Tryd.f72=some c72:=by kernel_rfl
theorem F72:F 72=some c72:=by kernel_rfl
theorem ok73:cfn Tryd.prog [0] (Ao h73) Tryd.f73=some c73:=by kernel_rfl
theorem F73:F 73=some c73:=by kernel_rfl
theorem ok74:cfn Tryd.prog [0] (Ao h74) Tryd.f74=some c74:=by kernel_rfl
theorem F74:F 74=some c74:=by kernel_rfl
theorem ok75:cfn Tryd.prog [0] (Ao h75) Tryd.f75=some c75:=by kernel_rfl
theorem F75:F 75=some c75:=by kernel_rfl
theorem ok78:cfn Tryd.prog [0] (Ao h78) Tryd.f78=some c78:=by kernel_rfl
theorem F78:F 78=some c78:=by kernel_rfl
theorem ok79:cfn Tryd.prog [0] (Ao h79) Tryd.f79=some c79:=by kernel_rfl
theorem ok83:cfn Tryd.prog [0] (Ao h83) Tryd.f83=some c83:=by kernel_rfl
theorem F83:F 83=some c83:=by kernel_rfl
theorem ok91:cfn Tryd.prog [0] (Ao h91) Tryd.f91=some c91:=by kernel_rfl
theorem F91:F 91=some c91:=by kernel_rfl
theorem ok92:cfn Tryd.prog [0] (Ao h92) Tryd.f92=some c92:=by kernel_rfl
theorem F92:F 92=some c92:=by kernel_rfl
theorem ok93:cfn Tryd.prog [0] (Ao h93) Tryd.f93=some c93:=by kernel_rfl
theorem F93:F 93=some c93:=by kernel_rfl
theorem ok94:cfn Tryd.prog [0] (Ao h94) Tryd.f94=some c94:=by kernel_rfl
theorem F94:F 94=some c94:=by kernel_rfl
theorem ok95:cfn Tryd.prog [0] (Ao h95) Tryd.f95=some c95:=by kernel_rfl
theorem F95:F 95=some c95:=by kernel_rfl
theorem ok96:cfn Tryd.prog [0] (Ao h96) Tryd.f96=some c96:=by kernel_rfl
theorem F96:F 96=some c96:=by kernel_rfl
theorem ok97:cfn Tryd.prog [0] (Ao h97) Tryd.f97=some c97:=by kernel_rfl
theorem F97:F 97=some c97:=by kernel_rfl
theorem ok98:cfn Tryd.prog [0] (Ao h98) Tryd.f98=some c98:=by kernel_rfl
theorem F98:F 98=some c98:=by kernel_rfl
theorem ok99:cfn Tryd.prog [0] (Ao h99) Tryd.f99=some c99:=by kernel_rfl
theorem F99:F 99=some c99:=by kernel_rfl
theorem ok100:cfn Tryd.prog [0] (Ao h100) Tryd.f100=some c100:=by kernel_rfl
theorem F100:F 100=some c100:=by kernel_rfl
theorem ok103:cfn Tryd.prog [0] (Ao h103) Tryd.f103=some c103:=by kernel_rfl
theorem F103:F 103=some c103:=by kernel_rfl
theorem ok105:cfn Tryd.prog [0] (Ao h105) Tryd.f105=some c105:=by kernel_rfl
theorem F105:F 105=some c105:=by kernel_rfl
theorem ok106:cfn Tryd.prog [0] (Ao h106) Tryd.f106=some c106:=by kernel_rfl
theorem F106:F 106=some c106:=by kernel_rfl
theorem ok107:cfn Tryd.prog [0] (Ao h107) Tryd.f107=some c107:=by kernel_rfl
theorem F107:F 107=some c107:=by kernel_rfl
theorem ok123:cfn Tryd.prog [0] (Ao h123) Tryd.f123=some c123:=by kernel_rfl
theorem F123:F 123=some c123:=by kernel_rfl
def OKp(p : Nat × IFn) : Prop := ∃ func hint, Tryd.prog.funcs[p.1]? = some func ∧ cfn Tryd.prog [0] hint func = some p.2 ∧ (func.name == "runtime.NumGoroutine") = false
theorem okp15:OKp (15,c15):=⟨_,_,Tryd.func15,ok15,by kernel_rfl⟩
theorem okp16:OKp (16,c16):=⟨_,_,Tryd.func16,ok16,by kernel_rfl⟩
theorem okp17:OKp (17,c17):=⟨_,_,Tryd.func17,ok17,by kernel_rfl⟩
theorem okp19:OKp (19,c19):=⟨_,_,Tryd.func19,ok19,by kernel_rfl⟩
theorem okp20:OKp (20,c20):=⟨_,_,Tryd.func20,ok20,by kernel_rfl⟩
theorem okp22:OKp (22,c22):=⟨_,_,Tryd.func22,ok22,by kernel_rfl⟩
theorem okp23:OKp (23,c23):=⟨_,_,Tryd.func23,ok23,by kernel_rfl⟩
theorem okp24:OKp (24,c24):=⟨_,_,Tryd.func24,ok24,by kernel_rfl⟩
theorem okp27:OKp (27,c27):=⟨_,_,Tryd.func27,ok27,by kernel_rfl⟩
theorem okp28:OKp (28,c28):=⟨_,_,Tryd.func28,ok28,by kernel_rfl⟩
theorem okp30:OKp (30,c30):=⟨_,_,Tryd.func30,ok30,by kernel_rfl⟩
theorem okp31:OKp (31,c31):=⟨_,_,Tryd.func31,ok31,by kernel_rfl⟩
theorem okp32:OKp (32,c32):=⟨_,_,Tryd.func32,ok32,by kernel_rfl⟩
theorem okp33:OKp (33,c33):=⟨_,_,Tryd.func33,ok33,by kernel_rfl⟩
theorem okp34:OKp (34,c34):=⟨_,_,Tryd.func34,ok34,by kernel_rfl⟩
theorem okp35:OKp (35,c35):=⟨_,_,Tryd.func35,ok35,by kernel_rfl⟩
theorem okp40:OKp (40,c40):=⟨_,_,Tryd.func40,ok40,by kernel_rfl⟩
theorem okp41:OKp (41,c41):=⟨_,_,Tryd.func41,ok41,by kernel_rfl⟩
theorem okp50:OKp (50,c50):=⟨_,_,Tryd.func50,ok50,by kernel_rfl⟩
theorem okp59:OKp (59,c59):=⟨_,_,Tryd.func59,ok59,by kernel_rfl⟩
theorem okp60:OKp (60,c60):=⟨_,_,Tryd.func60,ok60,by kernel_rfl⟩
theorem okp61:OKp (61,c61):=⟨_,_,Tryd.func61,ok61,by kernel_rfl⟩
theorem okp62:OKp (62,c62):=⟨_,_,Tryd.func62,ok62,by kernel_rfl⟩
theorem okp63:OKp (63,c63):=⟨_,_,Tryd.func63,ok63,by kernel_rfl⟩
theorem okp64:OKp (64,c64):=⟨_,_,Tryd.func64,ok64,by kernel_rfl⟩
theorem okp66:OKp (66,c66):=⟨_,_,Tryd.func66,ok66,by kernel_rfl⟩
theorem okp67:OKp (67,c67):=⟨_,_,Tryd.func67,ok67,by kernel_rfl⟩
theorem okp68:OKp (68,c68):=⟨_,_,Tryd.func68,ok68,by kernel_rfl⟩
theorem okp69:OKp (69,c69):=⟨_,_,Tryd.func69,ok69,by kernel_rfl⟩
theorem okp70:OKp (70,c70):=⟨_,_,Tryd.func70,ok70,by kernel_rfl⟩
theorem okp72:OKp (72,c72):=⟨_,_,Tryd.func72,ok72,by kernel_rfl⟩
theorem okp73:OKp (73,c73):=⟨_,_,Tryd.func73,ok73,by kernel_rfl⟩
theorem okp74:OKp (74,c74):=⟨_,_,Tryd.func74,ok74,by kernel_rfl⟩
theorem okp75:OKp (75,c75):=⟨_,_,Tryd.func75,ok75,by kernel_rfl⟩
theorem okp78:OKp (78,c78):=⟨_,_,Tryd.func78,ok78,by kernel_rfl⟩
theorem okp79:OKp (79,c79):=⟨_,_,Tryd.func79,ok79,by kernel_rfl⟩
theorem okp83:OKp (83,c83):=⟨_,_,Tryd.func83,ok83,by kernel_rfl⟩
theorem okp91:OKp (91,c91):=⟨_,_,Tryd.func91,ok91,by kernel_rfl⟩
theorem okp92:OKp (92,c92):=⟨_,_,Tryd.func92,ok92,by kernel_rfl⟩
theorem okp93:OKp (93,c93):=⟨_,_,Tryd.func93,ok93,by kernel_rfl⟩
theorem okp94:OKp (94,c94):=⟨_,_,Tryd.func94,ok94,by kernel_rfl⟩
theorem okp95:OKp (95,c95):=⟨_,_,Tryd.func95,ok95,by kernel_rfl⟩
theorem okp96:OKp (96,c96):=⟨_,_,Tryd.func96,ok96,by kernel_rfl⟩
theorem okp97:OKp (97,c97):=⟨_,_,Tryd.func97,ok97,by kernel_rfl⟩
theorem okp98:OKp (98,c98):=⟨_,_,Tryd.func98,ok98,by kernel_rfl⟩
theorem okp99:OKp (99,c99):=⟨_,_,Tryd.func99,ok99,by kernel_rfl⟩
theorem okp100:OKp (100,c100):=⟨_,_,Tryd.func100,ok100,by kernel_rfl⟩
theorem okp103:OKp (103,c103):=⟨_,_,Tryd.func103,ok103,by kernel_rfl⟩
theorem okp105:OKp (105,c105):=⟨_,_,Tryd.func105,ok105,by kernel_rfl⟩
theorem okp106:OKp (106,c106):=⟨_,_,Tryd.func106,ok106,by kernel_rfl⟩
theorem okp107:OKp (107,c107):=⟨_,_,Tryd.func107,ok107,by kernel_rfl⟩
theorem okp123:OKp (123,c123):=⟨_,_,Tryd.func123,ok123,by kernel_rfl⟩
theorem Abr:∀p∈tabF,OKp p:=by
 unfold tabF;exact AcJ.2 ⟨okp15,AcJ.2 ⟨okp16,AcJ.2 ⟨okp17,AcJ.2 ⟨okp19,AcJ.2 ⟨okp20,AcJ.2 ⟨okp22,AcJ.2 ⟨okp23,AcJ.2 ⟨okp24,AcJ.2 ⟨okp27,AcJ.2 ⟨okp28,AcJ.2 ⟨okp30,AcJ.2 ⟨okp31,AcJ.2 ⟨okp32,AcJ.2 ⟨okp33,AcJ.2 ⟨okp34,AcJ.2 ⟨okp35,AcJ.2 ⟨okp40,AcJ.2 ⟨okp41,AcJ.2 ⟨okp50,AcJ.2 ⟨okp59,AcJ.2 ⟨okp60,AcJ.2 ⟨okp61,AcJ.2 ⟨okp62,AcJ.2 ⟨okp63,AcJ.2 ⟨okp64,AcJ.2 ⟨okp66,AcJ.2 ⟨okp67,AcJ.2 ⟨okp68,AcJ.2 ⟨okp69,AcJ.2 ⟨okp70,AcJ.2 ⟨okp72,AcJ.2 ⟨okp73,AcJ.2 ⟨okp74,AcJ.2 ⟨okp75,AcJ.2 ⟨okp78,AcJ.2 ⟨okp79,AcJ.2 ⟨okp83,AcJ.2 ⟨okp91,AcJ.2 ⟨okp92,AcJ.2 ⟨okp93,AcJ.2 ⟨okp94,AcJ.2 ⟨okp95,AcJ.2 ⟨okp96,AcJ.2 ⟨okp97,AcJ.2 ⟨okp98,AcJ.2 ⟨okp99,AcJ.2 ⟨okp100,AcJ.2 ⟨okp103,AcJ.2 ⟨okp105,AcJ.2 ⟨okp106,AcJ.2 ⟨okp107,AcJ.2 ⟨okp123,(fun _ h=>nomatch h)⟩⟩⟩⟩⟩⟩⟩⟩⟩⟩⟩⟩⟩⟩⟩⟩⟩⟩⟩⟩⟩⟩⟩⟩⟩⟩⟩⟩⟩⟩⟩⟩⟩⟩⟩⟩⟩⟩⟩⟩⟩⟩⟩⟩⟩⟩⟩⟩⟩⟩⟩⟩
end Go.Abs
namespace Go.Abs
open Go.Proofs Go.RowKit
theorem GN{α:Type}{n:Nat}{c:α}:∀{l:List (Nat×α)},l.lookup n=some c->(n,c)∈l
 |[],h=>by simp at h
 |
  (m,d)::l,h=>by
  rw[List.lookup_cons]at h
  split at h
  ·rename_i e
   injection h with h
   subst h;rw[beq_iff_eq]at e;subst e;exact Ad4
  ·exact Adz _ (GN h)
theorem XJ:U9 Tryd.prog [0] F:=fun f fn h=>Abr (f,fn) (GN h)
theorem Nm{i:Nat}{c:IFn}(h:OKp (i,c)):U9 Tryd.prog [0] (more F i c):=by
 intro f fn e;unfold more at e
 by_cases e2:f=i
 ·rw[if_pos e2]at e
  have e3:=Option.some.inj e;rw[<-e3,e2];exact h
 ·rw[if_neg e2]at e
  exact XJ f fn e
theorem JS{G:Nat->Option IFn}(hG:U9 Tryd.prog [0] G){f:Nat}{vs:List AV}{rows:List Row}(h:Ret G f vs rows=some (.bool true,rows,none)){θ:Th}{w:World}{args:Array Value}(hr:HRel (KP Tryd.prog [0]) θ rows w)(hg:GRel θ [0])(hv:VL θ vs args.toList):
  Calls Tryd.prog f args w fun e w'=>e = .returned (.bool true)/\Below w.heap.size w w':=by
 obtain⟨n,hn⟩:=Ret_iff.1 h;refine(L9 hG (n:=n) hn hr hg hv).mono ?_
 rintro e w' ⟨θ',v',rfl,hV,fr⟩
 cases hV;refine⟨rfl,fr.os,fr.tape,fr.output,fr.size,fun b hb=>?_⟩;refine fr.keepB b hb fun id r L hr _ hle _=>?_
 have:=Uk hr;simp only[AC]at hle;omega
end Go.Abs
namespace Go.Abs
open Go.Proofs Go.RowKit Go.ChangeShapes Go.WideShapes Go.ChangeAt Go.WideElems
open Go.Proofs.YtichbmhjgbjiiaaDoor (Rows.laid_tosher_slope_none)
def Ke : List (String × DataW Unit) := [("tosher/slope.none", Rows.laid_tosher_slope_none)]
def gRows:List Row:=[.ro (Ad .i64 [0,1])]
theorem g0 : Tryd.prog.globalNamed "tosher/slope.none" = some 0 := by kernel_rfl
theorem ty0:(Tryd.prog.globals[0]?).map (·.type)=some 86:=by kernel_rfl
theorem Mo{P:Program}{W:World}{H:Type}{enc:TypeId×Value->H}{base:Nat}{spare held:_}{fuel t:Nat}{fs:Array Field}{a b:Field}{cs:List Value}{x y:Int}{q:_}(ht:P.underlying t=some (.struct fs))(hf0:fs[0]?=some a)(hf1:fs[1]?=some b)(ha:P.underlying a.type=some (.int .i64))(hb:P.underlying b.type=some (.int .i64))(hca:P.cellsOf a.type=1)(hcb:P.cellsOf b.type=1)(hoa:a.offset=0)(hob:b.offset=1)
  (h:DataW.trod enc P W base spare held fuel t cs=some (.agg [.lit (.int .i64 x),.lit (.int .i64 y)],q)):cs[0]?=some (.int .i64 x)/\cs[1]?=some (.int .i64 y):=by
 obtain⟨xs,m,rfl,hx1,hlen,hn,hel⟩:=DataW.trod_struct ht h;have h0:=hel 0 a hf0;have h1:=hel 1 b hf1;rw[hca,hoa]at h0;rw[hcb,hob]at h1;simp only[AcQ,DataW.agg.injEq]at hx1;have e:xs.map (·.1)=[.lit (.int .i64 x),.lit (.int .i64 y)]:=hx1.1.symm;have e0:(xs.map (·.1))[0]?=some (.lit (.int .i64 x)):=by rw[e];rfl
 have e1:(xs.map (·.1))[1]?=some (.lit (.int .i64 y)):=by rw[e];rfl
 rw[Ac9]at e0 e1;obtain⟨u,hu,hu2⟩:=AcK.1 e0;obtain⟨v,hv,hv2⟩:=AcK.1 e1;rw[hu]at h0;rw[hv]at h1;obtain⟨k0,c0,d0,_⟩:=DataW.trod_int ha h0;obtain⟨k1,c1,d1,_⟩:=DataW.trod_int hb h1;rw[d0]at hu2;rw[d1]at hv2;simp only[DataW.lit.injEq,Lit.int.injEq,true_and]at hu2 hv2;subst hu2 hv2;cases cs with
 |nil=>simp at c0
 |cons z cs=>
  cases cs with
  |nil=>simp at c1
  |cons w cs=>
   simp at c0 c1;subst c0 c1;exact⟨rfl,rfl⟩
theorem Uw{W:World}(h:laidMetH Tryd.prog Ke W):W.cell? ⟨0,0,none⟩=some (.int .i64 0)/\W.cell? ⟨0,1,none⟩=some (.int .i64 1)/\0<W.heap.size:=by
 rw[MakeChecks.laidMetH_plain _ _ _ (by kernel_rfl)]at h;obtain⟨ps,⟨b0,u0,cs0,f0,p0,q0,hg0,ht0,hv0,hd0,_,_⟩,_,_⟩:=h;obtain rfl:=Option.some.inj (g0.symm.trans hg0);obtain rfl:=Option.some.inj (ty0.symm.trans ht0);obtain⟨k0,k1⟩:=Mo Tryd.underlying86 rfl rfl Tryd.underlying2 Tryd.underlying2 (by kernel_rfl) (by kernel_rfl) rfl rfl hd0;have h0:W.cell? ⟨0,0,none⟩=some (.int .i64 0):=by
  rw[World.var?_cell hg0 hv0 0];simpa using k0
 refine⟨h0,?_,?_⟩
 ·rw[World.var?_cell hg0 hv0 1]
  simpa using k1
 ·unfold World.cell? at h0
  by_cases h:0<W.heap.size
  ·exact h
  ·rw[show W.heap[0]?=none from Array.getElem?_eq_none (by omega)]at h0
   simp at h0
def gTh:Th:=fun id=>if id=0 then some ⟨0,0,0⟩else none
theorem Aa8{κ:Fw}{W:World}(h:laidMetH Tryd.prog Ke W):HRel κ gTh gRows W:=by
 obtain⟨h0,h1,hs⟩:=Uw h;refine⟨?_,?_,?_,?_⟩
 ·intro id L e
  unfold gTh at e;simp only[gRows,AcU,Ac7]
  split at e
  ·omega
  ·simp at e
 ·intro id L e
  unfold gTh at e
  split at e
  ·injection e with e;subst e;exact hs
  ·simp at e
 ·intro id r e
  match id,e with
  |0,e=>
   injection e with e;subst e
   refine⟨⟨0,0,0⟩,rfl,fun j x hx=>?_⟩
   match j,hx with
   |0,hx=>injection hx with hx;subst hx;exact⟨_,h0,.int _ _,rfl⟩
   |1,hx=>injection hx with hx;subst hx;exact⟨_,h1,.int _ _,rfl⟩
   |j+2,hx=>simp[Ad]at hx
  |n+1,e=>simp[gRows]at e
 ·intro i j r s L L' hij hr ho
  match i,hr with
  |0,hr=>injection hr with hr;subst hr;simp[Row.owned]at ho
  |n+1,hr=>simp[gRows]at hr
theorem QW(os:Os)(args:Array Value):laidMetH Tryd.prog Ke ((World.doorLaid Tryd.prog 400 os).forCall (fun _ _=>0) ⟨#[],args,[]⟩).memory:=
 laidMetH_of_parts3 (fuel:=8) (laidMet_of_run' 8 (by kernel_rfl) (by kernel_rfl)) (by kernel_rfl) (by kernel_rfl)
end Go.Abs
namespace Go.Abs
section
variable {β:Type}
def Abq(c:Cap)(k:Cap->β):β:=match c with
 |.at_ n=>A1 n fun n=>k (.at_ n)
 |.op n=>A1 n fun n=>k (.op n)
def Wh(v:AV)(k:AV->β):β:=match v with
 |.bool b=>Ow b fun b=>k (.bool b)
 |.int kd n=>LM n fun n=>k (.int kd n)
 |.ptr i o=>A1 i fun i=>A1 o fun o=>k (.ptr i o)
 |.slice i o l c=>A1 i fun i=>A1 o fun o=>A1 l fun l=>Abq c fun c=>k (.slice i o l c)
 |.map i=>A1 i fun i=>k (.map i)
 |.yield i=>A1 i fun i=>k (.yield i)
 |v=>k v
def Sp(l:List AV)(k:List AV->β):β:=match l with
 |[]=>k []
 |v::l=>Wh v fun v=>Sp l fun l=>k (v::l)
def SY(v:AV)(k:AV->β):β:=match v with
 |.agg l=>Sp l fun l=>k (.agg l)
 |.tup l=>Sp l fun l=>k (.tup l)
 |.func f l=>Sp l fun l=>k (.func f l)
 |
  .iface t v=>Wh v fun v=>match v with
  |.agg l=>Sp l fun l=>k (.iface t (.agg l))
  |v=>k (.iface t v)
 |v=>Wh v k
def In(l:List AV)(k:List AV->β):β:=match l with
 |[]=>k []
 |v::l=>SY v fun v=>In l fun l=>k (v::l)
def Zf(l:List (AV×AV))(k:List (AV×AV)->β):β:=match l with
 |[]=>k []
 |
  p::l=>match p with
  |(a,b)=>Wh a fun a=>SY b fun b=>Zf l fun l=>k ((a,b)::l)
def Rs(r:Row)(k:Row->β):β:=match r with
 |.cells vs=>Sp vs fun vs=>k (.cells vs)
 |.mp es=>Zf es fun es=>k (.mp es)
 |.loop st pd sl ps a b=>In sl fun sl=>k (.loop st pd sl ps a b)
 |r=>k r
theorem Uc(c:Cap)(k:Cap->β):Abq c k=k c:=by cases c<;>simp[Abq,Bi]
theorem JH(v:AV)(k:AV->β):Wh v k=k v:=by cases v<;>simp[Wh,Bi,Ju,IY,Uc]
theorem Hj:∀(l:List AV) (k:List AV->β),Sp l k=k l
 |[],k=>rfl
 |v::l,k=>by simp[Sp,JH,Hj l]
theorem D5(v:AV)(k:AV->β):SY v k=k v:=by
 cases v<;>simp[SY,Hj,JH];rename_i t v;cases v<;>simp[Hj]
theorem Cg:∀(l:List AV) (k:List AV->β),In l k=k l
 |[],k=>rfl
 |v::l,k=>by simp[In,D5,Cg l]
theorem Ou:∀(l:List (AV×AV)) (k:List (AV×AV)->β),Zf l k=k l
 |[],k=>rfl
 |(a,b)::l,k=>by simp[Zf,JH,D5,Ou l]
theorem FY(r:Row)(k:Row->β):Rs r k=k r:=by cases r<;>simp[Rs,Hj,Ou,Cg]
def Vg(rows:List Row)(i:Nat)(r:Row)(k:List Row->β):β:=match rows with
 |[]=>k []
 |
  x::xs=>match i with
  |0=>k (r::xs)
  |i+1=>Vg xs i r fun ys=>k (x::ys)
def Mh(rows:List Row)(r:Row)(k:List Row->β):β:=match rows with
 |[]=>k [r]
 |x::xs=>Mh xs r fun ys=>k (x::ys)
def spK(rows:List Row)(k:List Row->β):β:=match rows with
 |[]=>k []
 |x::xs=>spK xs fun ys=>k (x::ys)
theorem Nd:∀(rows:List Row) (i:Nat) (r:Row) (k:List Row->β),Vg rows i r k=k (rows.set i r)
 |[],_,_,_=>by simp[Vg]
 |x::xs,0,r,k=>by simp[Vg]
 |x::xs,i+1,r,k=>by simp[Vg,Nd xs i r]
theorem KE:∀(rows:List Row) (r:Row) (k:List Row->β),Mh rows r k=k (rows++[r])
 |[],_,_=>by simp[Mh]
 |x::xs,r,k=>by simp[Mh,KE xs r]
theorem Te:∀(rows:List Row) (k:List Row->β),spK rows k=k rows
 |[],_=>by simp[spK]
 |x::xs,k=>by simp[spK,Te xs]
end
inductive Dl where
 |keep
 |set (id:Nat) (r:Row)
 |push (r:Row)
 |kp (id:Nat) (r:Row)
def Dl.app(rows:List Row):Dl->List Row
 |.keep=>rows
 |.set id r=>rows.set id r
 |.push r=>rows++[r]
 |.kp id r=>rows.set id .dead++[r]
def Dl.run{β:Type}(rows:List Row)(d:Dl)(k:List Row->β):β:=match d with
 |.keep=>k rows
 |.set id r=>A1 id fun id=>Rs r fun r=>Vg rows id r k
 |.push r=>Rs r fun r=>Mh rows r k
 |.kp id r=>A1 id fun id=>Rs r fun r=>Vg rows id .dead fun rows=>Mh rows r k
theorem Dl.run_eq{β:Type}(rows:List Row)(d:Dl)(k:List Row->β):d.run rows k=k (d.app rows):=by
 cases d<;>simp[Dl.run,Dl.app,Bi,FY,Nd,KE]
def Rq(g:Opd->AV)(rows:List Row)(low:Nat):IOp->Option (AV×Dl×Nat)
 |.box x=>if(g x).cells.all AV.one then some (.ptr rows.length 0,.push (.cells (g x).cells),low)else none
 |
  .store1 a x=>match g a with
  |
   .ptr id off=>match rows[id]? with
   |some (.cells vs)=>if off<vs.length/\(g x).one then some (.tup [],.set id (.cells (vs.set off (g x))),Ab low id)else none
   |_=>none
  |_=>none
 |
  .storeN n a x=>match g a,g x with
  |
   .ptr id off,.agg l=>match rows[id]? with
   |some (.cells vs)=>if l.length=n/\off+n<=vs.length/\l.all AV.one then some (.tup [],.set id (.cells (splice vs off l)),Ab low id)else none
   |_=>none
  |_,_=>none
 |
  .mkslice len zero ps=>match Ap g ps zero with
  |some cs=>some (.slice rows.length 0 len (.at_ len),.push (.cells cs),low)
  |none=>none
 |
  .make zero _ len cap=>match g len,g cap with
  |.int _ l,.int _ c=>if 0<=l/\l<=c/\c<=lim then
    some (.slice rows.length 0 l.toNat (.at_ c.toNat),.push (.cells ((List.replicate c.toNat zero).flatten)),low)else none
  |_,_=>none
 |
  .appz zero s x=>match g s,g x with
  |.nilslice,.int _ n=>if 0<n/\n<=lim then some (.slice rows.length 0 n.toNat (.op 1),.push (.cells ((List.replicate n.toNat zero).flatten)),low)else none
  |_,_=>none
 |.mkmap=>some (.map rows.length,.push (.mp []),low)
 |
  .mset m k v=>match g m with
  |
   .map id=>match rows[id]? with
   |
    some (.mp es)=>match CC (g k) es 0 with
    |some (some (i,_))=>some (.tup [],.set id (.mp (es.set i (g k,g v))),Ab low id)
    |some none=>if(Cx (g k) (g k)).isSome then some (.tup [],.set id (.mp (es++[(g k,g v)])),Ab low id)else none
    |none=>none
   |_=>none
  |_=>none
 |
  .app sz _ s x=>match A5 rows sz (g x)with
  |none=>none
  |some (ys,m)=>
   if m=0 then(match g s with
    |.nilslice=>some (.nilslice,.keep,low)
    |.slice id off n c=>some (.slice id off n c,.keep,low)
    |_=>none)
   else if lim<m then none
   else match g s with
    |.nilslice=>some (.slice rows.length 0 m (.op sz),.push (.cells ys),low)
    |.slice id off n (.at_ c)=>
     if lim<n+m then none
     else if n+m<=c then match rows[id]? with
      |some (.cells vs)=>if off+n*sz+ys.length<=vs.length then some (.slice id off (n+m) (.at_ c),.set id (.cells (splice vs (off+n*sz) ys)),Ab low id)else none
      |_=>none
     else match Ae rows id with
      |
       some vs=>match seg vs off (n*sz)with
       |some xs=>some (.slice rows.length 0 (n+m) (.op sz),.push (.cells (xs++ys)),low)
       |none=>none
      |none=>none
    |.slice id off n (.op sz')=>
     if lim<n+m\/sz'≠sz then none
     else match rows[id]? with
      |
       some (.cells vs)=>match seg vs off (n*sz)with
       |some xs=>some (.slice rows.length 0 (n+m) (.op sz),.kp id (.cells (xs++ys)),Ab low id)
       |none=>none
      |_=>none
    |_=>none
 |o=>(Af rows g o).map fun v=>(v,.keep,low)
theorem Lk(g:Opd->AV)(rows:List Row)(low:Nat)(o:IOp){v:AV}{d:Dl}{lw:Nat}(h:Rq g rows low o=some (v,d,lw)):Au g rows low o=some (v,d.app rows,lw):=by
 cases o<;>simp only[Rq,Au]at h ⊢
 case app=>
  split at h
  ·simp at h
  ·rename_i e
   rw[e];simp only
   split at h
   ·rename_i hm
    rw[if_pos hm]
    split at h<;>first|(simp at h;done)|(injection h with h;simp only[AcQ]at h;obtain⟨rfl,rfl,rfl⟩:=h;simp_all[Dl.app])
   ·rename_i hm
    rw[if_neg hm]
    split at h
    ·simp at h
    ·rename_i hl
     rw[if_neg hl]
     split at h
     ·rename_i e2
      injection h with h;simp only[AcQ]at h;obtain⟨rfl,rfl,rfl⟩:=h;simp[e2,Dl.app]
     ·rename_i e2
      rw[e2];simp only
      split at h
      ·simp at h
      rename_i h1;rw[if_neg h1]
      split at h
      ·rename_i h2
       rw[if_pos h2]
       split at h<;>try (simp at h;done)
       rename_i e3
       split at h
       ·rename_i h3
        injection h with h;simp only[AcQ]at h;obtain⟨rfl,rfl,rfl⟩:=h;simp only[e3,if_pos h3,Dl.app]
       ·simp at h
      ·rename_i h2
       rw[if_neg h2]
       split at h<;>try (simp at h;done)
       rename_i e3;rw[e3];simp only
       split at h<;>try (simp at h;done)
       rename_i e4;rw[e4];injection h with h;simp only[AcQ]at h;obtain⟨rfl,rfl,rfl⟩:=h;rfl
     ·rename_i e2
      rw[e2];simp only
      split at h
      ·simp at h
      rename_i h1;rw[if_neg h1]
      split at h<;>try (simp at h;done)
      rename_i e3;rw[e3];simp only
      split at h<;>try (simp at h;done)
      rename_i e4;rw[e4];injection h with h;simp only[AcQ]at h;obtain⟨rfl,rfl,rfl⟩:=h;rfl
     ·simp at h
 all_goals first
  |(
    repeat' split at h
    all_goals first
     |(simp at h;done)
     |(injection h with h;simp only[AcQ]at h;obtain⟨rfl,rfl,rfl⟩:=h;simp_all[Dl.app];done))
  |(injection h with h;simp only[AcQ]at h;obtain⟨rfl,rfl,rfl⟩:=h;simp_all[Dl.app];done)
  |(
    simp only[AcK,AcQ]at h ⊢;obtain⟨v0,e,rfl,rfl,rfl⟩:=h
    exact⟨_,e,rfl,rfl,rfl⟩)
def JU(g:Opd->AV):Option (Nat×Bool)->Option Bool
 |none=>some true
 |
  some (t,b)=>match g (.t t)with
  |.bool c=>some (c==b)
  |.tup []=>some false
  |_=>none
theorem H3(sl:List AV)(gd:Option (Nat×Bool)):BL sl gd=JU (Ak sl) gd:=by
 cases gd<;>rfl
def opD(call:C4)(g:Opd->AV)(rows:List Row)(low:Nat)(o:IOpx):Option (AV×List Row×Nat):=
 match JU g o.g with
 |none=>none
 |some false=>some (.tup [],rows,low)
 |some true=>
  match o.op with
  |
   .call tab f args=>match Aw tab (g f) (args.map g)with
   |
    some (fid,vs)=>match In vs fun vs=>call fid vs rows with
    |some (v,rows',d)=>some (v,rows',AC low d)
    |none=>none
   |none=>none
  |
   op=>match Rq g rows low op with
   |some (v,d,lw)=>d.run rows fun rows=>some (v,rows,lw)
   |none=>none
theorem Ye{call call':C4}(hc:LeC call call'){sl:List AV}{rows:List Row}{low:Nat}{o:IOpx}{q:AV×List Row×Nat}(h:opD call (Ak sl) rows low o=some q):opR call' sl rows low o=some q:=by
 unfold opD at h;unfold opR;rw[H3]
 split at h
 ·simp at h
 ·rename_i hw;rw[hw];exact h
 ·rename_i hw
  rw[hw];simp only
  split at h
  ·rename_i tab f args e
   rw[e];simp only
   split at h
   ·rename_i fid vs ht
    rw[ht];simp only
    split at h
    ·rename_i v rows' d hcall
     rw[Cg]at hcall;rw[hc _ _ _ _ hcall];exact h
    ·simp at h
   ·simp at h
  ·rename_i op hne
   split at h
   ·rename_i v d lw he
    rw[Dl.run_eq]at h;injection h with h
    subst h;have:=Lk _ _ _ _ he
    split
    ·rename_i e;exact absurd e (hne _ _ _)
    ·exact this
   ·simp at h
def Zr{β:Type}(l:List (Nat×Row))(k:List (Nat×Row)->β):β:=match l with
 |[]=>k []
 |
  p::l=>match p with
  |(a,b)=>A1 a fun a=>Rs b fun b=>Zr l fun l=>k ((a,b)::l)
theorem Nw{β:Type}:∀(l:List (Nat×Row)) (k:List (Nat×Row)->β),Zr l k=k l
 |[],k=>rfl
 |(a,b)::l,k=>by simp[Zr,Bi,FY,Nw l]
def RU(rows:List Row)(b:Nat)(ext:List (Nat×Row)):List Row:=match ext with
 |[]=>rows
 |_=>rows++Ai b ext
theorem Rz(rows:List Row)(b:Nat)(ext:List (Nat×Row)):RU rows b ext=rows++Ai b ext:=by
 cases ext with
 |nil=>simp[RU,Ai]
 |cons=>rfl
def W3{β:Type}(vs:List AV)(i:Nat)(k:List (Nat×AV)->β):β:=match vs with
 |[]=>k []
 |v::vs=>A1 i fun i=>W3 vs (i+1) fun l=>k ((i,v)::l)
def ini:Nat->List AV->List (Nat×AV)
 |_,[]=>[]
 |i,v::vs=>(i,v)::ini (i+1) vs
theorem J9{β:Type}:∀(vs:List AV) (i:Nat) (k:List (Nat×AV)->β),W3 vs i k=k (ini i vs)
 |[],i,k=>rfl
 |v::vs,i,k=>by simp[W3,Bi,J9 vs,ini]
theorem Tc:∀(vs:List AV) (i j:Nat),lk (ini i vs) j=if i<=j then(vs[j-i]?).getD .any else .any
 |[],i,j=>by simp[ini]
 |
  v::vs,i,j=>by
  rw[ini,JZ,Tc vs];rcases Aec i j with h|h|h
  ·rw[if_neg (by omega),if_pos (by omega),if_pos (by omega),show j-i=(j-(i+1))+1 from by omega]
   rfl
  ·subst h;simp
  ·rw[if_neg (by omega),if_neg (by omega),if_neg (by omega)]
theorem Xh{n:Nat}{vs:List AV}(h:vs.length<=n):mk n (ini 0 vs)=vs++List.replicate (n-vs.length) .any:=by
 apply Adx;intro j;rw[EJ,Tc,if_pos (AcX _),Nat.sub_zero]
 by_cases hj:j<vs.length
 ·rw[AcD hj,if_pos (by omega),AcR hj];rfl
 ·rw[AcG (by omega),Ac0 (l:=vs) (by omega),AdU]
  by_cases hn:j<n
  ·rw[if_pos hn,if_pos (by omega)];rfl
  ·rw[if_neg hn,if_neg (by omega)]
def AV.isAny:AV->Bool
 |.any=>true
 |_=>false
def ofL:Nat->List AV->List (Nat×AV)
 |_,[]=>[]
 |i,v::vs=>if v.isAny then ofL (i+1) vs else(i,v)::ofL (i+1) vs
def ofK{β:Type}(vs:List AV)(i:Nat)(k:List (Nat×AV)->β):β:=match vs with
 |[]=>k []
 |
  v::vs=>A1 i fun i=>match v.isAny with
  |true=>ofK vs (i+1) k
  |false=>ofK vs (i+1) fun l=>k ((i,v)::l)
theorem Tg{β:Type}:∀(vs:List AV) (i:Nat) (k:List (Nat×AV)->β),ofK vs i k=k (ofL i vs)
 |[],i,k=>rfl
 |
  v::vs,i,k=>by
  rw[ofK,Bi,ofL];cases v.isAny<;>simp[Tg vs]
theorem OS:∀(vs:List AV) (i j:Nat),lk (ofL i vs) j=if i<=j then(vs[j-i]?).getD .any else .any
 |[],i,j=>by simp[ofL]
 |
  v::vs,i,j=>by
  rw[ofL];have step:(if i<=j then((v::vs)[j-i]?).getD AV.any else .any)=if i=j then v else if i+1<=j then(vs[j-(i+1)]?).getD .any else .any:=by
   rcases Aec i j with h|h|h
   ·rw[if_pos (by omega),if_neg (by omega),if_pos (by omega),show j-i=(j-(i+1))+1 from by omega]
    rfl
   ·subst h;simp
   ·rw[if_neg (by omega),if_neg (by omega),if_neg (by omega)]
  rw[step]
  split
  ·rename_i ha
   have hv:v = .any:=by cases v<;>first|rfl|simp[AV.isAny]at ha
   rw[OS vs,hv]
   by_cases e:i=j
   ·rw[if_pos e,if_neg (by omega)]
   ·rw[if_neg e]
  ·rw[JZ,OS vs]
theorem YI(vs:List AV):mk vs.length (ofL 0 vs)=vs:=by
 apply Adx;intro j;rw[EJ,OS,if_pos (AcX _),Nat.sub_zero]
 by_cases hj:j<vs.length
 ·rw[if_pos hj,AcR hj];rfl
 ·rw[if_neg hj,Ac0 (by omega)]
def Ym(rows:List Row)(g:Opd->AV):RV->Option AV
 |.t n=>some (g (.t n))
 |.cell1 n=>Af rows g (.load1 (.t n))
 |.cellN n sz=>Af rows g (.loadN sz (.t n))
def K4(rows:List Row)(g:Opd->AV):List RV->Option (List AV)
 |[]=>some []
 |
  r::rs=>match Ym rows g r,K4 rows g rs with
  |some v,some vs=>some (v::vs)
  |_,_=>none
def Hv(rows:List Row)(g:Opd->AV)(res:List RV):Option AV:=
 match K4 rows g res with
 |some [v]=>some v
 |some vs=>some (.tup vs)
 |none=>none
theorem Jo(rows:List Row)(sl:List AV):∀res:List RV,C6 rows sl res=K4 rows (Ak sl) res
 |[]=>rfl
 |
  r::rs=>by
  have:Ib rows sl r=Ym rows (Ak sl) r:=by cases r<;>rfl
  rw[C6,K4,this,Jo rows sl rs]
  rfl
theorem JI(rows:List Row)(sl:List AV)(res:List RV):results rows sl res=Hv rows (Ak sl) res:=by
 unfold results Hv;rw[Jo]
 rfl
def Gz(ns:Nat)(cx:Ctx)(j:Option Jump)(l:List (Nat×AV))(rows:List Row)(low:Nat):Option (AV×List Row×Nat):=
 match cx with
 |
  .fn res=>match j with
  |some (.exit _)=>none
  |_=>(Hv rows (gO ns l) res).map fun v=>(v,rows,low)
 |
  .round id=>match rows[id]? with
  |some (.loop .busy _ sl ps asg body)=>some (.bool j.isNone,rows.set id (.loop (if j.isNone then .ready else .done) j sl ps asg body),Ab low id)
  |_=>none
theorem Np(ns:Nat)(cx:Ctx)(j:Option Jump)(l:List (Nat×AV))(rows:List Row)(low:Nat):AU cx j ⟨mk ns l,rows,low⟩=Gz ns cx j l rows low:=by
 unfold AU Gz;cases cx<;>simp only[JI,Fs]<;>rfl
def NW(rows:List Row):Option (AV×List Row×Nat)->Option (AV×List Row×Option Nat)
 |
  some (v,rows',low')=>match fin rows v rows' low' with
  |(v,rows2,d)=>SY v fun v=>spK rows2 fun rows2=>some (v,rows2,d)
 |none=>none
theorem Pl(rows:List Row)(o:Option (AV×List Row×Nat)):NW rows o=Dw rows o:=by
 cases o with
 |none=>rfl
 |some q=>
  obtain⟨v,rows',low'⟩:=q;simp only[NW,Dw,D5,Te]
noncomputable def bq{β:Type}(b:Bool)(x y:β):β:=Bool.rec (motive:=fun _=>β) y x b
@[simp] theorem BC{β:Type}(x y:β):bq true x y=x:=rfl
@[simp] theorem Dr{β:Type}(x y:β):bq false x y=y:=rfl
section
variable {β:Type}
noncomputable def qN(n:Nat)(k:Nat->β):β:=Nat.rec (motive:=fun _=>β) (k Nat.zero) (fun m _=>k (Nat.succ m)) n
theorem DA(n:Nat)(k:Nat->β):qN n k=k n:=by cases n<;>rfl
noncomputable def qI(n:Int)(k:Int->β):β:=Int.rec (motive:=fun _=>β) (fun m=>qN m fun m=>k (.ofNat m)) (fun m=>qN m fun m=>k (.negSucc m)) n
theorem Aas(n:Int)(k:Int->β):qI n k=k n:=by cases n<;>simp[qI,DA]
noncomputable def qB(b:Bool)(k:Bool->β):β:=Bool.rec (motive:=fun _=>β) (k false) (k true) b
theorem Aao(b:Bool)(k:Bool->β):qB b k=k b:=by cases b<;>rfl
noncomputable def lkK(l:List (Nat×AV))(j:Nat)(k:AV->β):β:=List.rec (motive:=fun _=>β) (k .any) (fun p _ ih=>Bool.rec (motive:=fun _=>β) ih (k p.2) (Nat.beq p.1 j)) l
theorem On:∀(l:List (Nat×AV)) (j:Nat) (k:AV->β),lkK l j k=k (lk l j)
 |[],j,k=>rfl
 |
  (i,v)::l,j,k=>by
  show Bool.rec (motive:=fun _=>β) (lkK l j k) (k v) (Nat.beq i j)=k (lk ((i,v)::l) j);rw[On l,lk];cases Nat.beq i j<;>rfl
noncomputable def gK(ns:Nat)(l:List (Nat×AV))(x:Opd)(k:AV->β):β:=Opd.rec (motive:=fun _=>β) (fun i=>Bool.rec (motive:=fun _=>β) (k .any) (lkK l i k) (Nat.ble (Nat.succ i) ns)) (fun v=>k v) x
theorem BS(ns:Nat)(l:List (Nat×AV))(x:Opd)(k:AV->β):gK ns l x k=k (gO ns l x):=by
 cases x with
 |t i=>
  show Bool.rec (motive:=fun _=>β) (k .any) (lkK l i k) (Nat.ble (i+1) ns)=_;rw[On];simp only[gO];cases Nat.ble (i+1) ns<;>rfl
 |c v=>rfl
noncomputable def gsK(ns:Nat)(l:List (Nat×AV))(xs:List Opd)(k:List AV->β):β:=List.rec (motive:=fun _=>(List AV->β)->β) (fun k=>k []) (fun x _ ih k=>gK ns l x fun v=>ih fun vs=>k (v::vs)) xs k
theorem S7(ns:Nat)(l:List (Nat×AV)):∀(xs:List Opd) (k:List AV->β),gsK ns l xs k=k (xs.map (gO ns l))
 |[],k=>rfl
 |
  x::xs,k=>by
  show gK ns l x (fun v=>gsK ns l xs fun vs=>k (v::vs))=_;rw[BS,S7 ns l xs]
  rfl
noncomputable def RB(l:List (Nat×AV))(ks:List Nat)(k:List (Nat×AV)->β):β:=List.rec (motive:=fun _=>(List (Nat×AV)->β)->β) (fun k=>k []) (fun i _ ih k=>lkK l i fun v=>ih fun r=>k ((i,v)::r)) ks k
theorem Lq(l:List (Nat×AV)):∀(ks:List Nat) (k:List (Nat×AV)->β),RB l ks k=k (only l ks)
 |[],k=>rfl
 |
  i::is,k=>by
  show lkK l i (fun v=>RB l is fun r=>k ((i,v)::r))=_;rw[On,Lq l is]
  rfl
noncomputable def SO(rows:List Row)(i:Nat)(k:Row->Option β):Option β:=List.rec (motive:=fun _=>Nat->Option β) (fun _=>none) (fun r _ ih i=>Nat.rec (motive:=fun _=>Option β) (k r) (fun m _=>ih m) i) rows i
theorem Er:∀(rows:List Row) (i:Nat) (k:Row->Option β),SO rows i k=(rows[i]?).bind k
 |[],i,k=>by simp[SO]
 |r::rows,0,k=>rfl
 |
  r::rows,i+1,k=>by
  show SO rows i k=_;rw[Er rows i];simp
noncomputable def Zt(vs:List AV)(i:Nat)(k:AV->Option β):Option β:=List.rec (motive:=fun _=>Nat->Option β) (fun _=>none) (fun v _ ih i=>Nat.rec (motive:=fun _=>Option β) (k v) (fun m _=>ih m) i) vs i
theorem PR:∀(vs:List AV) (i:Nat) (k:AV->Option β),Zt vs i k=(vs[i]?).bind k
 |[],i,k=>by simp[Zt]
 |r::rows,0,k=>rfl
 |
  r::rows,i+1,k=>by
  show Zt rows i k=_;rw[PR rows i];simp
noncomputable def AaQ(vs:List AV)(n:Nat)(k:List AV->Option β):Option β:=List.rec (motive:=fun _=>Nat->(List AV->Option β)->Option β) (fun n k=>Nat.rec (motive:=fun _=>Option β) (k []) (fun _ _=>none) n) (fun v _ ih n k=>Nat.rec (motive:=fun _=>Option β) (k []) (fun m _=>ih m fun l=>k (v::l)) n) vs n k
theorem NJ:∀(vs:List AV) (n:Nat) (k:List AV->Option β),AaQ vs n k=if n<=vs.length then k (vs.take n)else none
 |[],0,k=>rfl
 |[],n+1,k=>rfl
 |
  v::vs,0,k=>by
  show k []=_;rw[if_pos (AcX _)];rfl
 |
  v::vs,n+1,k=>by
  show AaQ vs n (fun l=>k (v::l))=_;rw[NJ vs n];simp
noncomputable def Z4(vs:List AV)(n:Nat)(k:List AV->Option β):Option β:=List.rec (motive:=fun _=>Nat->Option β) (fun n=>Nat.rec (motive:=fun _=>Option β) (k []) (fun _ _=>none) n) (fun v vs ih n=>Nat.rec (motive:=fun _=>Option β) (k (v::vs)) (fun m _=>ih m) n) vs n
theorem Oy:∀(vs:List AV) (n:Nat) (k:List AV->Option β),Z4 vs n k=if n<=vs.length then k (vs.drop n)else none
 |[],0,k=>rfl
 |[],n+1,k=>rfl
 |
  v::vs,0,k=>by
  show k (v::vs)=_;rw[if_pos (AcX _)];rfl
 |
  v::vs,n+1,k=>by
  show Z4 vs n k=_;rw[Oy vs n];simp
noncomputable def Aar(vs:List AV)(off n:Nat)(k:List AV->Option β):Option β:=Z4 vs off fun vs=>AaQ vs n k
theorem TG(vs:List AV)(off n:Nat)(k:List AV->Option β):Aar vs off n k=(seg vs off n).bind k:=by
 unfold Aar seg;rw[Oy]
 split
 ·rw[NJ]
  simp only[Ad2]
  by_cases h:off+n<=vs.length
  ·rw[if_pos (by omega),if_pos h];rfl
  ·rw[if_neg (by omega),if_neg h];rfl
 ·rw[if_neg (by omega)];rfl
noncomputable def TX(rows:List Row)(i:Nat)(r:Row)(k:List Row->β):β:=List.rec (motive:=fun _=>Nat->(List Row->β)->β) (fun _ k=>k []) (fun x xs ih i k=>Nat.rec (motive:=fun _=>β) (k (r::xs)) (fun m _=>ih m fun ys=>k (x::ys)) i) rows i k
theorem FJ(r:Row):∀(rows:List Row) (i:Nat) (k:List Row->β),TX rows i r k=k (rows.set i r)
 |[],i,k=>by simp[TX]
 |x::xs,0,k=>rfl
 |
  x::xs,i+1,k=>by
  show TX xs i r (fun ys=>k (x::ys))=_;rw[FJ r xs];simp
noncomputable def Qq(vs:List AV)(i:Nat)(v:AV)(k:List AV->Option β):Option β:=List.rec (motive:=fun _=>Nat->(List AV->Option β)->Option β) (fun _ _=>none) (fun x xs ih i k=>Nat.rec (motive:=fun _=>Option β) (k (v::xs)) (fun m _=>ih m fun ys=>k (x::ys)) i) vs i k
theorem Lm(v:AV):∀(vs:List AV) (i:Nat) (k:List AV->Option β),Qq vs i v k=if i<vs.length then k (vs.set i v)else none
 |[],i,k=>by simp[Qq]
 |
  x::xs,0,k=>by
  show k (v::xs)=_;rw[if_pos (by simp)];rfl
 |
  x::xs,i+1,k=>by
  show Qq xs i v (fun ys=>k (x::ys))=_;rw[Lm v xs];simp
noncomputable def Td(l:List AV)(vs:List AV)(k:List AV->Option β):Option β:=List.rec (motive:=fun _=>List AV->(List AV->Option β)->Option β) (fun vs k=>k vs) (fun y _ ih vs k=>List.rec (motive:=fun _=>Option β) none (fun _ vs _=>ih vs fun r=>k (y::r)) vs) l vs k
theorem Ku:∀(l vs:List AV) (k:List AV->Option β),Td l vs k=if l.length<=vs.length then k (l++vs.drop l.length)else none
 |[],vs,k=>by simp[Td]
 |y::l,[],k=>by simp[Td]
 |
  y::l,v::vs,k=>by
  show Td l vs (fun r=>k (y::r))=_;rw[Ku l vs];simp
noncomputable def AaO(vs:List AV)(off:Nat)(l:List AV)(k:List AV->Option β):Option β:=List.rec (motive:=fun _=>Nat->(List AV->Option β)->Option β) (fun n k=>Nat.rec (motive:=fun _=>Option β) (Td l [] k) (fun _ _=>none) n) (fun x xs ih i k=>Nat.rec (motive:=fun _=>Option β) (Td l (x::xs) k) (fun m _=>ih m fun ys=>k (x::ys)) i) vs off k
theorem ON(l:List AV):∀(vs:List AV) (off:Nat) (k:List AV->Option β),AaO vs off l k=if off+l.length<=vs.length then k (splice vs off l)else none
 |
  [],0,k=>by
  show Td l [] k=_;rw[Ku];simp[splice]
 |
  [],n+1,k=>by
  show none=_;rw[if_neg (by simp only[Ac7];omega)]
 |
  x::xs,0,k=>by
  show Td l (x::xs) k=_;rw[Ku];simp[splice]
 |
  x::xs,i+1,k=>by
  show AaO xs i l (fun ys=>k (x::ys))=_;rw[ON l xs];have:i+1+l.length=i+l.length+1:=by omega
  by_cases h:i+l.length<=xs.length
  ·rw[if_pos h,if_pos (by simp;omega)]
   simp[splice,this]
  ·rw[if_neg h,if_neg (by simp;omega)]
noncomputable def Q5(rows:List Row)(r:Row)(k:List Row->β):β:=List.rec (motive:=fun _=>(List Row->β)->β) (fun k=>k [r]) (fun x _ ih k=>ih fun ys=>k (x::ys)) rows k
theorem Hx(r:Row):∀(rows:List Row) (k:List Row->β),Q5 rows r k=k (rows++[r])
 |[],k=>rfl
 |
  x::xs,k=>by
  show Q5 xs r (fun ys=>k (x::ys))=_;rw[Hx r xs];rfl
noncomputable def spQ(rows:List Row)(k:List Row->β):β:=List.rec (motive:=fun _=>(List Row->β)->β) (fun k=>k []) (fun x _ ih k=>ih fun ys=>k (x::ys)) rows k
theorem GF:∀(rows:List Row) (k:List Row->β),spQ rows k=k rows
 |[],k=>rfl
 |
  x::xs,k=>by
  show spQ xs (fun ys=>k (x::ys))=_;rw[GF xs]
noncomputable def pQ(l:List (Nat×AV))(d:Option Nat)(v:AV)(k:List (Nat×AV)->β):β:=Option.rec (motive:=fun _=>β) (k l) (fun d=>k ((d,v)::l)) d
theorem Da(l:List (Nat×AV))(d:Option Nat)(v:AV)(k:List (Nat×AV)->β):pQ l d v k=k (pO l d v):=by cases d<;>rfl
end
def Mn(k:IntKind)(n:Int):Int:=match k,n with
 |.i64,.ofNat m=>cond (Nat.ble m 9223372036854775807) (.ofNat m) (IntKind.wrap .i64 (.ofNat m))
 |.i64,.negSucc m=>cond (Nat.ble m 9223372036854775807) (.negSucc m) (IntKind.wrap .i64 (.negSucc m))
 |.u64,.ofNat m=>cond (Nat.ble m 18446744073709551615) (.ofNat m) (IntKind.wrap .u64 (.ofNat m))
 |k,n=>k.wrap n
theorem HU{m n:Nat}{x y:Int}(h:m<=n->y=x):cond (Nat.ble m n) x y=y:=by
 cases e:Nat.ble m n with
 |false=>rfl
 |true=>rw[cond_true,h (AeD e)]
theorem Qp(k:IntKind)(n:Int):Mn k n=k.wrap n:=by
 unfold Mn
 split
 ·rename_i m
  refine HU fun h=>AM ?_ ?_<;>(show _<=_;simp only[Ad6];omega)
 ·rename_i m
  refine HU fun h=>AM ?_ ?_<;>(simp only[Int.negSucc_eq];omega)
 ·rename_i m
  refine HU fun h=>O5 ?_ ?_<;>(simp only[Ad6];omega)
 ·rfl
def Aba(op:BinOp)(x y:AV):Option AV:=match x,y with
 |
  .int k a,.int k' b=>match op with
  |.add=>if k=k' then some (.int k (Mn k (a+b)))else none
  |.sub=>if k=k' then some (.int k (Mn k (a-b)))else none
  |.mul=>if k=k' then some (.int k (Mn k (a*b)))else none
  |.quo=>if k=k' then(if b=0 then none else some (.int k (Mn k (a.tdiv b))))else none
  |op=>Cy op (.int k a) (.int k' b)
 |x,y=>Cy op x y
theorem VP(op:BinOp)(x y:AV):Aba op x y=Cy op x y:=by
 unfold Aba
 split
 ·split<;>simp only[Qp]<;>rfl
 ·rfl
section
variable {β:Type}
noncomputable def qV(v:AV)(k:AV->β):β:=match v with
 |.int kd n=>qI n fun n=>k (.int kd n)
 |.bool b=>qB b fun b=>k (.bool b)
 |.ptr i o=>qN i fun i=>qN o fun o=>k (.ptr i o)
 |v=>SY v k
theorem TA(v:AV)(k:AV->β):qV v k=k v:=by
 unfold qV
 split<;>simp[Aas,Aao,DA,D5]
end
section
variable {β:Type}
noncomputable def ldQ(rows:List Row)(a:AV)(k:List AV->Nat->Option β):Option β:=match a with
 |
  .ptr id off=>SO rows id fun r=>match r with
  |.cells vs=>k vs off
  |.ro vs=>k vs off
  |_=>none
 |_=>none
theorem Sk(rows:List Row)(a:AV)(k:List AV->Nat->Option β):ldQ rows a k=match a with|.ptr id off=>(Ae rows id).bind fun vs=>k vs off|_=>none:=by
 unfold ldQ
 split
 ·rename_i id off
  rw[Er];unfold Ae;cases rows[id]? with
  |none=>rfl
  |some r=>cases r<;>rfl
 ·rfl
noncomputable def QZ(o:Option AV)(k:AV->Option β):Option β:=match o with
 |some v=>qV v k
 |none=>none
theorem LS(o:Option AV)(k:AV->Option β):QZ o k=o.bind k:=by
 cases o<;>simp[QZ,TA]
noncomputable def Yo(sz:Nat)(x i:AV)(k:AV->Option β):Option β:=match x with
 |
  .slice id off len _=>match i with
  |
   .int _ n=>match n with
   |.ofNat j=>bq (Nat.ble (Nat.succ j) len) (qN (Nat.add off (Nat.mul j sz)) fun o=>k (.ptr id o)) none
   |.negSucc _=>none
  |_=>none
 |_=>none
noncomputable def Yk(len sz:Nat)(x i:AV)(k:AV->Option β):Option β:=match x with
 |
  .ptr id off=>match i with
  |
   .int _ n=>match n with
   |.ofNat j=>bq (Nat.ble (Nat.succ j) len) (qN (Nat.add off (Nat.mul j sz)) fun o=>k (.ptr id o)) none
   |.negSucc _=>none
  |_=>none
 |_=>none
noncomputable def So(d:Nat)(x:AV)(k:AV->Option β):Option β:=match x with
 |.ptr id off=>qN (Nat.add off d) fun o=>k (.ptr id o)
 |_=>none
noncomputable def AbT(x:AV)(k:AV->Option β):Option β:=match x with
 |.slice _ _ n _=>k (.int .i64 (.ofNat n))
 |.nilslice=>k (.int .i64 (.ofNat Nat.zero))
 |_=>none
noncomputable def Rm(ns:Nat)(op:IOp)(l:List (Nat×AV))(rows:List Row)(k:AV->Option β):Option β:=match op with
 |.mv x=>gK ns l x k
 |.load1 a=>gK ns l a fun a=>ldQ rows a fun vs off=>Zt vs off k
 |.loadN n a=>gK ns l a fun a=>ldQ rows a fun vs off=>Aar vs off n fun m=>k (.agg m)
 |.bin op x y=>gK ns l x fun x=>gK ns l y fun y=>QZ (Aba op x y) k
 |.idxS sz x i=>gK ns l x fun x=>gK ns l i fun i=>Yo sz x i k
 |.idxA len sz x i=>gK ns l x fun x=>gK ns l i fun i=>Yk len sz x i k
 |.fieldA d x=>gK ns l x fun x=>So d x k
 |.len 0 x=>gK ns l x fun x=>AbT x k
 |op=>QZ (Af rows (gO ns l) op) k
theorem LP(ns:Nat)(op:IOp)(l:List (Nat×AV))(rows:List Row)(k:AV->Option β):Rm ns op l rows k=(Af rows (gO ns l) op).bind k:=by
 have hidx:∀(j len:Nat) (K K':Option β),bq (Nat.ble (Nat.succ j) len) K K'=if j<len then K else K':=fun j len K K'=>by
  cases e:Nat.ble (Nat.succ j) len with
  |true=>have:=AeD e;rw[if_pos (by omega)];rfl
  |false=>rw[if_neg (fun h=>by rw[Nat.ble_eq_true_of_le (by omega)]at e;simp at e)];rfl
 unfold Rm
 split
 ·rw[BS];rfl
 ·rename_i a
  rw[BS,Sk];simp only[Af];cases gO ns l a<;>try rfl
  simp only;cases Ae rows _<;>simp[PR]
 ·rename_i n a
  rw[BS,Sk];simp only[Af];cases gO ns l a<;>try rfl
  simp only;cases Ae rows _ with
  |none=>rfl
  |some vs=>simp only[Ac4,TG];cases seg vs _ _<;>rfl
 ·rw[BS,BS,LS,VP];rfl
 ·rename_i sz x i
  rw[BS,BS];simp only[Af,Yo];cases gO ns l x<;>try rfl
  cases gO ns l i<;>try rfl
  rename_i id off len c kd n;cases n with
  |ofNat j=>
   simp only[hidx,DA,AI]
   by_cases h:j<len
   ·rw[if_pos h,if_pos (by simp only[Ad6];omega)];rfl
   ·rw[if_neg h,if_neg (by simp only[Ad6];omega)];rfl
  |negSucc j=>rfl
 ·rename_i len sz x i
  rw[BS,BS];simp only[Af,Yk];cases gO ns l x<;>try rfl
  cases gO ns l i<;>try rfl
  rename_i id off kd n;cases n with
  |ofNat j=>
   simp only[hidx,DA,AI]
   by_cases h:j<len
   ·rw[if_pos h,if_pos (by simp only[Ad6];omega)];rfl
   ·rw[if_neg h,if_neg (by simp only[Ad6];omega)];rfl
  |negSucc j=>rfl
 ·rename_i d x
  rw[BS];simp only[Af,So];cases gO ns l x<;>try rfl
  simp only[DA];rfl
 ·rename_i x
  rw[BS];simp only[Af,AbT];cases gO ns l x<;>rfl
 ·rw[LS]
end
abbrev RR:=Option (AV×List Row×Nat)
abbrev KK:=List (Nat×AV)->List Row->Nat->RR
abbrev EX:=Nat->Ctx->List Itm->List (Nat×AV)->List Row->Nat->RR
section
variable (F:Nat->Option IFn)(ex:EX)(ns:Nat)
noncomputable def ND(d:Option Nat)(a x:AV)(K:KK)(l:List (Nat×AV))(rows:List Row)(low:Nat):RR:=match a with
 |
  .ptr id off=>bq x.one (SO rows id fun r=>match r with
  |.cells vs=>Qq vs off x fun vs=>TX rows id (.cells vs) fun rows=>qN (Ab low id) fun low=>pQ l d (.tup []) fun l=>K l rows low
  |_=>none) none
 |_=>none
noncomputable def NF(d:Option Nat)(n:Nat)(a x:AV)(K:KK)(l:List (Nat×AV))(rows:List Row)(low:Nat):RR:=match a with
 |
  .ptr id off=>match x with
  |
   .agg m=>bq (Nat.beq m.length n&&m.all AV.one) (SO rows id fun r=>match r with
   |.cells vs=>AaO vs off m fun vs=>TX rows id (.cells vs) fun rows=>qN (Ab low id) fun low=>pQ l d (.tup []) fun l=>K l rows low
   |_=>none) none
  |_=>none
 |_=>none
noncomputable def Ab9(d:Option Nat)(x:AV)(K:KK)(l:List (Nat×AV))(rows:List Row)(low:Nat):RR:=bq (x.cells.all AV.one) (Rs (.cells x.cells) fun r=>qN rows.length fun n=>Q5 rows r fun rows=>pQ l d (.ptr n 0) fun l=>K l rows low) none
noncomputable def YD(d:Option Nat)(o:Option (AV×Dl×Nat))(K:KK)(l:List (Nat×AV))(rows:List Row)(low:Nat):RR:=match o with
 |some (v,dl,lw)=>qV v fun v=>dl.run rows fun rows=>qN lw fun low=>pQ l d v fun l=>K l rows low
 |none=>none
noncomputable def GH(fid:Nat)(vs:List AV)(rows:List Row)(low:Nat)(K:AV->List Row->Nat->RR):RR:=match F fid with
 |
  some fn=>bq (Nat.ble vs.length fn.ns) (match W3 vs 0 fun l=>ex fn.ns (.fn fn.res) [.code fn.body] l rows rows.length with
  |
   some (v,rows',low')=>match fin rows v rows' low' with
   |(v,rows2,dd)=>SY v fun v=>spQ rows2 fun rows2=>qN (AC low dd) fun low=>K v rows2 low
  |none=>none) none
 |none=>none
noncomputable def PY(id:Nat)(vs:List AV)(rows:List Row)(low:Nat)(K:AV->List Row->Nat->RR):RR:=SO rows id fun r=>match r with
 |
  .loop _ _ sl ps asg body=>bq (Nat.beq ps.length vs.length) (match In (putL sl ps vs) fun sl=>ofK sl 0 fun l1=>ex sl.length (.round id) [.code asg,.rfBegin,.code body] l1 rows rows.length with
  |some (v,rows',low')=>qN (Ab low low') fun lw=>spQ (gc rows.length lw v rows') fun rows2=>qV v fun v=>K v rows2 lw
  |none=>none) none
 |_=>none
noncomputable def Tw(d:Option Nat)(tab:List (Nat×Nat))(f:AV)(vs:List AV)(K:KK)(l:List (Nat×AV))(rows:List Row)(low:Nat):RR:=match tab with
 |
  []=>match f with
  |.func fid []=>GH F ex fid vs rows low fun v rows low=>pQ l d v fun l=>K l rows low
  |.func fid cs=>In (vs++cs) fun vs=>GH F ex fid vs rows low fun v rows low=>pQ l d v fun l=>K l rows low
  |
   .iface t v=>match AG t v with
   |some p=>In (p.2++vs) fun vs=>GH F ex p.1 vs rows low fun v rows low=>pQ l d v fun l=>K l rows low
   |none=>none
  |.yield id=>PY ex id vs rows low fun v rows low=>pQ l d v fun l=>K l rows low
  |_=>none
 |
  p::tab=>match f with
  |
   .iface t v=>bq (Nat.beq t bd) none (match (p::tab).lookup t with
   |some fid=>GH F ex fid (v::vs) rows low fun v rows low=>pQ l d v fun l=>K l rows low
   |none=>none)
  |_=>none
noncomputable def Zy(d:Option Nat)(op:IOp)(K:KK)(l:List (Nat×AV))(rows:List Row)(low:Nat):RR:=match op with
 |.call tab f args=>gK ns l f fun f=>gsK ns l args fun vs=>Tw F ex d tab f vs K l rows low
 |.store1 a x=>gK ns l a fun a=>gK ns l x fun x=>ND d a x K l rows low
 |.storeN n a x=>gK ns l a fun a=>gK ns l x fun x=>NF d n a x K l rows low
 |.box x=>gK ns l x fun x=>Ab9 d x K l rows low
 |op=>bq op.pure (Rm ns op l rows fun v=>pQ l d v fun l=>K l rows low) (YD d (Rq (gO ns l) rows low op) K l rows low)
noncomputable def Aa1(a b:Bool):Bool:=Bool.rec (motive:=fun _=>Bool) (Bool.rec (motive:=fun _=>Bool) true false b) b a
theorem Nz(a b:Bool):Aa1 a b=(a==b):=by cases a<;>cases b<;>rfl
noncomputable def ZZ(o:IOpx)(K:KK)(l:List (Nat×AV))(rows:List Row)(low:Nat):RR:=match o with
 |
  ⟨d,op,gd⟩=>match gd with
  |none=>Zy F ex ns d op K l rows low
  |
   some p=>gK ns l (.t p.1) fun g=>match g with
   |.bool c=>bq (Aa1 c p.2) (Zy F ex ns d op K l rows low) (pQ l d (.tup []) fun l=>K l rows low)
   |.tup []=>pQ l d (.tup []) fun l=>K l rows low
   |_=>none
noncomputable def Px:C4:=fun f vs rows=>match F f with
 |some fn=>if vs.length<=fn.ns then NW rows (W3 vs 0 fun l=>ex fn.ns (.fn fn.res) [.code fn.body] l rows rows.length)else none
 |none=>none
noncomputable def ZR{β:Type}(ext:List (Nat×Row))(i:Nat)(rs:List Row)(k:List (Nat×Row)->β):β:=match rs with
 |[]=>k ext
 |r::rs=>Zr (ext++(r::rs).map fun x=>(i,x)) k
theorem V2{β:Type}(ext:List (Nat×Row))(i:Nat)(rs:List Row)(k:List (Nat×Row)->β):ZR ext i rs k=k (ext++rs.map fun x=>(i,x)):=by
 cases rs with
 |nil=>simp[ZR]
 |cons r rs=>simp only[ZR,Nw]
noncomputable def RY(B:Nat->List Row)(b:Nat)(d:Option Nat)(op:IOp)(i:Nat)(l:List (Nat×AV))(ext:List (Nat×Row))(K:List (Nat×AV)->List (Nat×Row)->RR):RR:=
 bq op.pure (Rm ns op l (RU (B i) b ext) fun v=>pQ l d v fun l=>K l ext) (match opD (Px F ex) (gO ns l) (RU (B i) b ext) ((B i).length+ext.length) ⟨d,op,none⟩with
  |some (v,rows',low')=>bq (Nat.beq low' ((B i).length+ext.length)) (SY v fun v=>ZR ext i (rows'.drop ((B i).length+ext.length)) fun ext=>pQ l d v fun l=>K l ext) none
  |none=>none)
noncomputable def Aay(B:Nat->List Row)(p:IOpx×Nat)(i:Nat)(l:List (Nat×AV))(ext:List (Nat×Row))(K:List (Nat×AV)->List (Nat×Row)->RR):RR:=match p with
 |
  (o,b)=>match o with
  |
   ⟨d,op,gd⟩=>match gd with
   |none=>RY F ex ns B b d op i l ext K
   |
    some q=>gK ns l (.t q.1) fun g=>match g with
    |.bool c=>bq (Aa1 c q.2) (RY F ex ns B b d op i l ext K) (pQ l d (.tup []) fun l=>K l ext)
    |.tup []=>pQ l d (.tup []) fun l=>K l ext
    |_=>none
noncomputable def Zj(B:Nat->List Row)(g:List (IOpx×Nat)):Nat->List (Nat×AV)->List (Nat×Row)->(List (Nat×AV)->List (Nat×Row)->RR)->RR:=
 List.rec (motive:=fun _=>Nat->List (Nat×AV)->List (Nat×Row)->(List (Nat×AV)->List (Nat×Row)->RR)->RR) (fun _ l ext K=>K l ext) (fun p _ ih i l ext K=>Aay F ex ns B p i l ext fun l ext=>ih (Nat.succ i) l ext K) g
noncomputable def YT(rows:List Row)(ext:List (Nat×Row))(k:List Row->RR):RR:=match ext with
 |[]=>k rows
 |e::ext=>spQ (rows++(e::ext).map (·.2)) k
theorem NE(rows:List Row)(ext:List (Nat×Row))(k:List Row->RR):YT rows ext k=k (rows++ext.map (·.2)):=by
 cases ext with
 |nil=>simp[YT]
 |cons e ext=>simp only[YT,GF]
noncomputable def AbJ(g:List (IOpx×Nat))(K:KK)(l:List (Nat×AV))(rows:List Row)(low:Nat):RR:=Zj F ex ns (fun _=>rows) g Nat.zero l [] fun l ext=>YT rows ext fun rows=>K l rows low
noncomputable def W0(a y:Opd)(sz:Option Nat)(b:Nat)(g:List (IOpx×Nat))(K:KK)(l:List (Nat×AV))(rows:List Row)(low:Nat):RR:=
 Zj F ex ns (fun _=>rows) g Nat.zero l [] fun l0 _=>gK ns l0 a fun a0=>match a0 with
  |
   .ptr R off=>spQ (Bf rows R off (sz.getD 1)) fun rm=>Zj F ex ns (BT rows rm b) g Nat.zero l [] fun l' ext=>match CG (mk ns l') rows R off a y sz with
   |some r'=>Rs r' fun r'=>TX rows R r' fun rows=>YT rows ext fun rows=>qN (Ab low R) fun low=>K l' rows low
   |none=>none
  |_=>none
noncomputable def Abt(sg:Seg)(K:KK)(l:List (Nat×AV))(rows:List Row)(low:Nat):RR:=match sg with
 |.one o=>ZZ F ex ns o K l rows low
 |.grp g=>AbJ F ex ns g K l rows low
 |.grpw a y sz b g=>W0 F ex ns a y sz b g K l rows low
 |.stop=>none
noncomputable def VC(K:KK)(s:List Seg):KK:=List.rec (motive:=fun _=>KK) K (fun sg _ ih=>Abt F ex ns sg ih) s
noncomputable def rfQ(cx:Ctx)(f:Opd)(ps:List Nat)(asg body:ICode)(k:List Itm)(l:List (Nat×AV))(rows:List Row)(low:Nat):RR:=
 bq (KZ cx rows) (match target (gO ns l f) [.yield rows.length]with
  |
   some (fid,vs)=>match Rs (.loop .ready none (mk ns l) ps asg body) fun r=>Q5 rows r fun rows1=>In vs fun vs=>Px F ex fid vs rows1 with
   |
    some (_,rows',d)=>match AL rows.length low rows' d with
    |some (k0,rows2,low2)=>spQ rows2 fun rows2=>qN low2 fun low2=>ex ns cx (k0++k) l rows2 low2
    |none=>none
   |none=>none
  |none=>none) none
noncomputable def Abe(cx:Ctx)(k:List Itm)(l:List (Nat×AV))(rows:List Row)(low:Nat):RR:=match cx with
 |
  .round id=>SO rows id fun r=>match r with
  |.loop .ready pend sl ps asg body=>TX rows id (.loop .busy pend sl ps asg body) fun rows=>qN (Ab low id) fun low=>ex ns cx k l rows low
  |_=>none
 |_=>none
noncomputable def UN(cx:Ctx)(id:Nat)(k:List Itm)(l:List (Nat×AV))(rows:List Row)(low:Nat):RR:=match BB id k with
 |some k'=>ex ns cx k' l rows low
 |none=>Gz ns cx (some (.exit id)) l rows low
noncomputable def T5(cx:Ctx)(c:Opd)(a b:ICode)(k:List Itm)(l:List (Nat×AV))(rows:List Row)(low:Nat):RR:=gK ns l c fun c=>match c with
 |.bool t=>Bool.rec (motive:=fun _=>RR) (ex ns cx (.code b::k) l rows low) (ex ns cx (.code a::k) l rows low) t
 |_=>none
noncomputable def Yw(cx:Ctx)(c:ICode)(k:List Itm)(l:List (Nat×AV))(rows:List Row)(low:Nat):RR:=ICode.casesOn (motive:=fun _=>RR) c
 (ex ns cx k l rows low)
 (Gz ns cx (some .ret) l rows low)
 (fun id=>UN ex ns cx id k l rows low)
 (fun a b=>ex ns cx (.code a::.code b::k) l rows low)
 (fun c a b=>T5 ex ns cx c a b k l rows low)
 (fun id c=>ex ns cx (.code c::.inBlock id::k) l rows low)
 (fun c=>ex ns cx (.code c::.inLoop c::k) l rows low)
 (fun c=>ex ns cx (.code c::.inScope c::k) l rows low)
 (fun s=>VC F ex ns (fun l rows low=>ex ns cx k l rows low) s l rows low)
 (fun f ps asg body=>rfQ F ex ns cx f ps asg body k l rows low)
 (fun m ks c=>bq (Nat.beq m ns) (RB l ks fun l=>ex ns cx (.code c::k) l rows low) none)
 none
noncomputable def Acx(cx:Ctx)(x:Itm)(k:List Itm)(l:List (Nat×AV))(rows:List Row)(low:Nat):RR:=Itm.rec (motive:=fun _=>RR)
 (fun c=>Yw F ex ns cx c k l rows low)
 (fun _=>ex ns cx k l rows low)
 (fun c=>ex ns cx (.code c::.inLoop c::k) l rows low)
 (fun _=>ex ns cx k l rows low)
 (fun s=>VC F ex ns (fun l rows low=>ex ns cx k l rows low) s l rows low)
 (Abe ex ns cx k l rows low) x
noncomputable def Xb:EX:=fun ns cx k l rows low=>List.rec (motive:=fun _=>RR) (Gz ns cx none l rows low) (fun x k _=>Acx F ex ns cx x k l rows low) k
end
noncomputable def XQ(F:Nat->Option IFn)(n:Nat):EX:=Nat.rec (motive:=fun _=>EX) (fun _ _ _ _ _ _=>none) (fun _ ih=>Xb F ih) n
noncomputable def cQ(F:Nat->Option IFn)(n:Nat):C4:=Px F (XQ F n)
def SD(F:Nat->Option IFn)(ex:EX):Prop:=∀(ns:Nat) (cx:Ctx) (k:List Itm) (l:List (Nat×AV)) (rows:List Row) (low:Nat) (r:AV×List Row×Nat),ex ns cx k l rows low=some r->Ex F cx k ⟨mk ns l,rows,low⟩ fun q=>q=r
section
variable {F:Nat->Option IFn}{ex:EX}(hS:SD F ex){ns:Nat}{cx:Ctx}{k:List Itm}
include hS
theorem NV{fid:Nat}{fn:IFn}(hF:F fid=some fn){vs:List AV}(hl:vs.length<=fn.ns){rows:List Row}{q:AV×List Row×Nat}(h:ex fn.ns (.fn fn.res) [.code fn.body] (ini 0 vs) rows rows.length=some q):Ret F fid vs rows=some (fin rows q.1 q.2.1 q.2.2):=by
 obtain⟨n,x,e,rfl⟩:=hS _ _ _ _ _ _ _ h;refine EK (n:=n) ?_;unfold cF AE;simp only[hF];rw[Xh hl]at e;rw[show exec F n (.fn fn.res) [.code fn.body] (Me fn vs rows)=_ from e]
 rfl
theorem Hh:LeC (Px F ex) (Ret F):=by
 intro f vs rows q h;unfold Px at h
 split at h
 ·rename_i fn hfn
  split at h
  ·rename_i hlen
   rw[Pl,J9]at h;unfold Dw at h
   split at h
   ·rename_i v rows' low' he
    rw[NV hS hfn hlen he];exact h
   ·simp at h
  ·simp at h
 ·simp at h
theorem DF{fid:Nat}{vs:List AV}{rows:List Row}{low:Nat}{K:AV->List Row->Nat->RR}{r:AV×List Row×Nat}(h:GH F ex fid vs rows low K=some r):∃q,Ret F fid vs rows=some q/\K q.1 q.2.1 (AC low q.2.2)=some r:=by
 unfold GH at h
 split at h
 ·rename_i fn hfn
  cases hb:Nat.ble vs.length fn.ns with
  |false=>rw[hb]at h;simp at h
  |true=>
   rw[hb,BC,J9]at h
   split at h
   ·rename_i v rows' low' he
    simp only[D5,GF,DA]at h;exact⟨_,NV hS hfn (AeD hb) he,h⟩
   ·simp at h
 ·simp at h
theorem NB{id:Nat}{vs:List AV}{rows:List Row}{low:Nat}{K:AV->List Row->Nat->RR}{r:AV×List Row×Nat}(h:PY ex id vs rows low K=some r):∃st pd sl ps asg body,rows[id]?=some (.loop st pd sl ps asg body)/\ps.length=vs.length/\
  Ex F (.round id) [.code asg,.rfBegin,.code body] ⟨putL sl ps vs,rows,rows.length⟩ fun q=>K q.1 (gc rows.length (Ab low q.2.2) q.1 q.2.1) (Ab low q.2.2)=some r:=by
 unfold PY at h;rw[Er]at h;cases hr:rows[id]? with
 |none=>rw[hr]at h;simp at h
 |some w=>
  rw[hr]at h;simp only[Ac4]at h
  split at h
  ·rename_i st pd sl ps asg body
   cases hb:Nat.beq ps.length vs.length with
   |false=>rw[hb]at h;simp at h
   |true=>
    rw[hb,BC,Cg,Tg]at h
    split at h
    ·rename_i v rows' low' he
     simp only[DA,GF,TA]at h;refine⟨st,pd,sl,ps,asg,body,rfl,Aem hb,?_⟩;have:=hS _ _ _ _ _ _ _ he;rw[YI]at this;exact this.imp fun q hq=>by subst hq;exact h
    ·simp at h
  ·simp at h
theorem QO{d:Option Nat}{tab:List (Nat×Nat)}{f:AV}{vs:List AV}{K:KK}{l:List (Nat×AV)}{rows:List Row}{low:Nat}{s:List Seg}{r:AV×List Row×Nat}(hK:∀l rows low,K l rows low=some r->Ex F cx (.ops s::k) ⟨mk ns l,rows,low⟩ fun q=>q=r)
  (h:Tw F ex d tab f vs K l rows low=some r):Gl F cx d s k (mk ns l) rows low (fun q=>q=r) vs tab f:=by
 unfold Tw at h
 split at h
 ·split at h
  ·obtain⟨q,e,h⟩:=DF hS h
   rw[Da]at h;refine⟨q,by simpa using e,?_⟩;rw[Gm];exact hK _ _ _ h
  ·rw[Cg]at h
   obtain⟨q,e,h⟩:=DF hS h;rw[Da]at h;refine⟨q,e,?_⟩;rw[Gm];exact hK _ _ _ h
  ·split at h
   ·rename_i p hp
    rw[Cg]at h;obtain⟨q,e,h⟩:=DF hS h;rw[Da]at h;refine⟨p,hp,q,e,?_⟩;rw[Gm];exact hK _ _ _ h
   ·simp at h
  ·obtain⟨st,pd,sl,ps,asg,body,h1,h2,h3⟩:=NB hS h
   refine⟨st,pd,sl,ps,asg,body,h1,h2,h3.imp fun q hq=>?_⟩;rw[Da]at hq;rw[Gm];exact hK _ _ _ hq
  ·simp at h
 ·split at h
  ·rename_i p tab t v
   cases hb:Nat.beq t bd with
   |true=>rw[hb]at h;simp at h
   |false=>
    rw[hb,Dr]at h
    split at h
    ·rename_i fid hl
     obtain⟨q,e,h⟩:=DF hS h;rw[Da]at h;refine⟨fun e=>?_,fid,hl,q,e,?_⟩
     ·subst e
      rw[Nat.beq_refl]at hb;simp at hb
     ·rw[Gm];exact hK _ _ _ h
    ·simp at h
  ·simp at h
theorem PA{d:Option Nat}{op:IOp}{K:KK}{l:List (Nat×AV)}{rows:List Row}{low:Nat}{s:List Seg}{r:AV×List Row×Nat}(hK:∀l rows low,K l rows low=some r->Ex F cx (.ops s::k) ⟨mk ns l,rows,low⟩ fun q=>q=r)
  (h:Zy F ex ns d op K l rows low=some r):Ex F cx (.ops (.one ⟨d,op,none⟩::s)::k) ⟨mk ns l,rows,low⟩ fun q=>q=r:=by
 -- an operation that is no call
 have plainOp:∀(o:IOp),o.plain=true->(∃v rows' low',Au (gO ns l) rows low o=some (v,rows',low')/\K (pO l d v) rows' low'=some r)->Ex F cx (.ops (.one ⟨d,o,none⟩::s)::k) ⟨mk ns l,rows,low⟩ fun q=>q=r:=by
  rintro o ho ⟨v,rows',low',e,hk⟩
  rw[YO ho];refine⟨true,rfl,?_⟩;rw[if_pos rfl];refine⟨v,rows',low',?_,?_⟩
  ·rw[Fs];exact e
  ·rw[Gm];exact hK _ _ _ hk
 unfold Zy at h
 split at h
 ·rename_i tab f args
  rw[BS,S7]at h;rw[G8];rw[Fs];exact QO hS hK h
 ·rename_i a x
  rw[BS,BS]at h;refine plainOp _ rfl ?_;unfold ND at h;simp only[Au]
  split at h
  ·rename_i id off e
   rw[e];cases hx:(gO ns l x).one with
   |false=>rw[hx]at h;simp at h
   |true=>
    rw[hx,BC,Er]at h;simp only;cases hr:rows[id]? with
    |none=>rw[hr]at h;simp at h
    |some w=>
     rw[hr]at h;simp only[Ac4]at h
     split at h
     ·rename_i vs
      rw[Lm]at h
      split at h
      ·rename_i ho
       simp only[FJ,DA,Da]at h;simp only[ho,true_and,and_self,if_true];exact⟨_,_,_,rfl,h⟩
      ·simp at h
     ·simp at h
  ·simp at h
 ·rename_i n a x
  rw[BS,BS]at h;refine plainOp _ rfl ?_;unfold NF at h;simp only[Au]
  split at h
  ·rename_i id off e
   rw[e]
   split at h
   ·rename_i m em
    rw[em];cases hx:(Nat.beq m.length n&&m.all AV.one)with
    |false=>rw[hx]at h;simp at h
    |true=>
     rw[hx,BC,Er]at h;simp only[Ac3]at hx;have hn:=Aem hx.1;simp only;cases hr:rows[id]? with
     |none=>rw[hr]at h;simp at h
     |some w=>
      rw[hr]at h;simp only[Ac4]at h
      split at h
      ·rename_i vs
       rw[ON]at h
       split at h
       ·rename_i ho
        simp only[FJ,DA,Da]at h;rw[hn]at ho;simp only[hn,ho,hx.2,true_and,and_self,if_true];exact⟨_,_,_,rfl,h⟩
       ·simp at h
      ·simp at h
   ·simp at h
  ·simp at h
 ·rename_i x
  rw[BS]at h;refine plainOp _ rfl ?_;unfold Ab9 at h;simp only[Au];cases hx:(gO ns l x).cells.all AV.one with
  |false=>rw[hx]at h;simp at h
  |true=>
   rw[hx,BC]at h;simp only[FY,DA,Hx,Da]at h;simp only[if_true];exact⟨_,_,_,rfl,h⟩
 ·rename_i h1 h2 h3 h4
  have hpl:op.plain=true:=by
   cases op<;>first|rfl|exact absurd rfl (h1 _ _ _)
  refine plainOp _ hpl ?_;cases hp:op.pure with
  |true=>
   rw[hp,BC,LP]at h;rw[BH hp];cases he:Af rows (gO ns l) op with
   |none=>rw[he]at h;simp at h
   |some v=>
    rw[he]at h;simp only[Ac4,Da]at h;exact⟨v,rows,low,rfl,h⟩
  |false=>
   rw[hp,Dr]at h;unfold YD at h
   split at h
   ·rename_i v dl lw he
    rw[TA,Dl.run_eq,DA,Da]at h;exact⟨v,_,_,Lk _ _ _ _ he,h⟩
   ·simp at h
theorem UW{o:IOpx}{K:KK}{l:List (Nat×AV)}{rows:List Row}{low:Nat}{s:List Seg}{r:AV×List Row×Nat}(hK:∀l rows low,K l rows low=some r->Ex F cx (.ops s::k) ⟨mk ns l,rows,low⟩ fun q=>q=r)
  (h:ZZ F ex ns o K l rows low=some r):Ex F cx (.ops (.one o::s)::k) ⟨mk ns l,rows,low⟩ fun q=>q=r:=by
 obtain⟨d,op,gd⟩:=o;unfold ZZ at h;simp only at h;cases gd with
 |none=>exact PA hS hK h
 |some p=>
  obtain⟨t,b⟩:=p;simp only[BS]at h;rw[ET];have hw:BL (mk ns l) (some (t,b))=JU (gO ns l) (some (t,b)):=by rw[H3,Fs]
  rw[hw];simp only[JU]
  split at h
  ·rename_i c e
   first|rw[e]|skip
   try simp only
   rw[Nz]at h;refine⟨_,rfl,?_⟩;cases hcb:(c==b)with
   |true=>
    rw[hcb,BC]at h;rw[if_pos rfl];exact PA hS hK h
   |false=>
    rw[hcb,Dr,Da]at h;rw[if_neg (by simp),Gm];exact hK _ _ _ h
  ·rename_i e
   first|rw[e]|skip
   try simp only
   refine⟨_,rfl,?_⟩;rw[Da]at h;rw[if_neg (by simp),Gm];exact hK _ _ _ h
  ·simp at h
theorem WR{B:Nat->List Row}{o:IOpx}{b i:Nat}{l:List (Nat×AV)}{ext:List (Nat×Row)}{K:List (Nat×AV)->List (Nat×Row)->RR}{r:AV×List Row×Nat}(h:Aay F ex ns B (o,b) i l ext K=some r):
  ∃v rows',opR (Ret F) (mk ns l) (B i++Ai b ext) ((B i).length+ext.length) o=some (v,rows',(B i).length+ext.length)/\K (pO l o.dst v) (ext++(rows'.drop ((B i).length+ext.length)).map fun x=>(i,x))=some r:=by
 obtain⟨d,op,gd⟩:=o;have hdrop:((B i++Ai b ext).drop ((B i).length+ext.length)).map (fun x=>(i,x))=[]:=by
  rw[AdA (by simp[Ai])];rfl
 have one:∀gd:Option (Nat×Bool),BL (mk ns l) gd=some true->RY F ex ns B b d op i l ext K=some r->
   ∃v rows',opR (Ret F) (mk ns l) (B i++Ai b ext) ((B i).length+ext.length) ⟨d,op,gd⟩=some (v,rows',(B i).length+ext.length)/\K (pO l d v) (ext++(rows'.drop ((B i).length+ext.length)).map fun x=>(i,x))=some r:=by
  intro gd hw h;unfold RY at h;rw[Rz]at h;cases hp:op.pure with
  |true=>
   rw[hp,BC,LP]at h;cases he:Af (B i++Ai b ext) (gO ns l) op with
   |none=>rw[he]at h;simp at h
   |some v=>
    rw[he]at h;simp only[Ac4,Da]at h;refine⟨v,B i++Ai b ext,?_,by rw[hdrop,AcV];exact h⟩;unfold opR;rw[hw];simp only
    split
    ·simp[IOp.pure]at hp
    ·rw[Fs,BH hp,he];rfl
  |false=>
   rw[hp,Dr]at h
   split at h
   ·rename_i v rows' low' ho
    cases hb:Nat.beq low' ((B i).length+ext.length)with
    |false=>rw[hb]at h;simp at h
    |true=>
     rw[hb,BC]at h;have hl:=Aem hb;subst hl;rw[D5,V2,Da]at h;refine⟨v,rows',?_,h⟩;rw[<-Fs]at ho;have:=Ye (Hh hS) ho;unfold opR at this ⊢;rw[hw];exact this
   ·simp at h
 unfold Aay at h;simp only at h;cases gd with
 |none=>exact one none rfl h
 |some p=>
  obtain⟨t,b'⟩:=p;simp only[BS]at h;have hw:BL (mk ns l) (some (t,b'))=JU (gO ns l) (some (t,b')):=by rw[H3,Fs]
  have no:BL (mk ns l) (some (t,b'))=some false->pQ l d (.tup []) (fun l=>K l ext)=some r->
    ∃v rows',opR (Ret F) (mk ns l) (B i++Ai b ext) ((B i).length+ext.length) ⟨d,op,some (t,b')⟩=some (v,rows',(B i).length+ext.length)/\K (pO l d v) (ext++(rows'.drop ((B i).length+ext.length)).map fun x=>(i,x))=some r:=by
   intro hw h;rw[Da]at h;refine⟨.tup [],B i++Ai b ext,?_,by rw[hdrop,AcV];exact h⟩;unfold opR;rw[hw]
  split at h
  ·rename_i c e
   rw[Nz]at h;have hw2:BL (mk ns l) (some (t,b'))=some (c==b'):=by rw[hw];simp only[JU,e]
   cases hcb:(c==b')with
   |true=>
    rw[hcb,BC]at h;rw[hcb]at hw2;exact one _ hw2 h
   |false=>
    rw[hcb,Dr]at h;rw[hcb]at hw2;exact no hw2 h
  ·rename_i e
   have hw2:BL (mk ns l) (some (t,b'))=some false:=by rw[hw];simp only[JU,e]
   exact no hw2 h
  ·simp at h
theorem Hk{B:Nat->List Row}:∀(g:List (IOpx×Nat)) (i:Nat) (l:List (Nat×AV)) (ext:List (Nat×Row)) {K:List (Nat×AV)->List (Nat×Row)->RR} {r:AV×List Row×Nat},Zj F ex ns B g i l ext K=some r->
  ∃l' ext',At (Ret F) B i g (mk ns l) ext=some (mk ns l',ext')/\K l' ext'=some r
 |[],i,l,ext,K,r,h=>⟨l,ext,rfl,h⟩
 |
  (o,b)::g,i,l,ext,K,r,h=>by
  obtain⟨v,rows',e1,e2⟩:=WR hS h;obtain⟨l',ext',e3,e4⟩:=Hk g (i+1) _ _ e2;refine⟨l',ext',?_,e4⟩;simp only[At,e1,if_true,Gm];exact e3
theorem Vs{sg:Seg}{K:KK}{l:List (Nat×AV)}{rows:List Row}{low:Nat}{s:List Seg}{r:AV×List Row×Nat}(hK:∀l rows low,K l rows low=some r->Ex F cx (.ops s::k) ⟨mk ns l,rows,low⟩ fun q=>q=r)
  (h:Abt F ex ns sg K l rows low=some r):Ex F cx (.ops (sg::s)::k) ⟨mk ns l,rows,low⟩ fun q=>q=r:=by
 unfold Abt at h
 split at h
 ·exact UW hS hK h
 ·rename_i g
  unfold AbJ at h;obtain⟨l',ext,e1,e2⟩:=Hk hS g 0 l [] h;rw[NE]at e2;rw[O3];exact⟨_,e1,hK _ _ _ e2⟩
 ·rename_i a y sz b g
  unfold W0 at h;obtain⟨l0,ext0,e1,e2⟩:=Hk hS g 0 l [] h;rw[BS]at e2;rw[HG]
  split at e2
  ·rename_i R off eR
   rw[GF]at e2;obtain⟨l',ext,e3,e4⟩:=Hk hS g 0 l [] e2;refine⟨_,e1,R,off,by rw[Fs];exact eR,_,e3,?_⟩
   split at e4
   ·rename_i r' hr
    simp only[FY,FJ,NE,DA]at e4;exact⟨r',hr,hK _ _ _ e4⟩
   ·simp at e4
  ·simp at e2
 ·simp at h
theorem If{K:KK}{r:AV×List Row×Nat}(hK:∀l rows low,K l rows low=some r->Ex F cx k ⟨mk ns l,rows,low⟩ fun q=>q=r):∀(s:List Seg) (l:List (Nat×AV)) (rows:List Row) (low:Nat),VC F ex ns K s l rows low=some r->Ex F cx (.ops s::k) ⟨mk ns l,rows,low⟩ fun q=>q=r
 |[],l,rows,low,h=>by rw[IK];exact hK _ _ _ h
 |sg::s,l,rows,low,h=>Vs hS (fun l rows low h=>If hK s l rows low h) h
omit hS in
theorem Fl{j:Option Jump}{l:List (Nat×AV)}{rows:List Row}{low:Nat}{r:AV×List Row×Nat}(h:Gz ns cx j l rows low=some r):AU cx j ⟨mk ns l,rows,low⟩=some r:=by rw[Np];exact h
theorem Q7{c:ICode}{l:List (Nat×AV)}{rows:List Row}{low:Nat}{r:AV×List Row×Nat}(h:Yw F ex ns cx c k l rows low=some r):Ex F cx (.code c::k) ⟨mk ns l,rows,low⟩ fun q=>q=r:=by
 cases c with
 |skip=>rw[HF];exact hS _ _ _ _ _ _ _ h
 |ret=>rw[SU];exact⟨r,Fl h,rfl⟩
 |exit id=>
  rw[D6];have h:UN ex ns cx id k l rows low=some r:=h;unfold UN at h
  split at h
  ·rename_i k' e;rw[e];exact hS _ _ _ _ _ _ _ h
  ·rename_i e;rw[e];exact⟨r,Fl h,rfl⟩
 |seq a b=>rw[Fc];exact hS _ _ _ _ _ _ _ h
 |cond c a b=>
  rw[PW];have h:T5 ex ns cx c a b k l rows low=some r:=h;unfold T5 at h;rw[BS]at h
  split at h
  ·rename_i t e
   refine⟨t,by rw[Fs];exact e,?_⟩;cases t
   ·exact hS _ _ _ _ _ _ _ h
   ·exact hS _ _ _ _ _ _ _ h
  ·simp at h
 |block id c=>rw[EQ];exact hS _ _ _ _ _ _ _ h
 |loop c=>rw[Ex_loop];exact hS _ _ _ _ _ _ _ h
 |scope c=>rw[ES];exact hS _ _ _ _ _ _ _ h
 |ops s=>rw[Jb];exact If hS (fun l rows low h=>hS _ _ _ _ _ _ _ h) s l rows low h
 |rf f ps asg body=>
  have h:rfQ F ex ns cx f ps asg body k l rows low=some r:=h;unfold rfQ at h;rw[Uu];cases hb:KZ cx rows with
  |false=>rw[hb]at h;simp at h
  |true=>
   rw[hb,BC]at h;refine⟨rfl,?_⟩
   split at h
   ·rename_i fid vs ht
    refine⟨(fid,vs),by rw[Fs];exact ht,?_⟩;simp only[FY,Hx,Cg]at h
    split at h
    ·rename_i v rows' d hx
     refine⟨_,Hh hS _ _ _ _ hx,?_⟩
     split at h
     ·rename_i k0 rows2 low2 ha
      simp only[GF,DA]at h;exact⟨_,ha,hS _ _ _ _ _ _ _ h⟩
     ·simp at h
    ·simp at h
   ·simp at h
 |kill m ks c=>
  have h:bq (Nat.beq m ns) (RB l ks fun l=>ex ns cx (.code c::k) l rows low) none=some r:=h;rw[Df];cases hb:Nat.beq m ns with
  |false=>rw[hb]at h;simp at h
  |true=>
   rw[hb,BC,Lq]at h;have hm:=Aem hb;subst hm;rw[Bu];exact hS _ _ _ _ _ _ _ h
 |stop=>have h:(none:RR)=some r:=h;simp at h
theorem RW:SD F (Xb F ex):=by
 intro ns cx k l rows low r h;cases k with
 |nil=>rw[Pz];exact⟨r,Fl h,rfl⟩
 |cons x k=>
  cases x with
  |code c=>exact Q7 hS h
  |inBlock id=>rw[GJ];exact hS _ _ _ _ _ _ _ h
  |inLoop c=>rw[Ex_inLoop];exact hS _ _ _ _ _ _ _ h
  |inScope c=>rw[GR];exact hS _ _ _ _ _ _ _ h
  |ops s=>exact If hS (fun l rows low h=>hS _ _ _ _ _ _ _ h) s l rows low h
  |rfBegin=>
   have h2:Abe ex ns cx k l rows low=some r:=h;clear h;unfold Abe at h2
   split at h2
   ·rename_i id
    rw[Er]at h2;cases hr:rows[id]? with
    |none=>rw[hr]at h2;simp at h2
    |some w=>
     rw[hr]at h2;simp only[Ac4]at h2
     split at h2
     ·rename_i pd sl ps asg body
      simp only[FJ,DA]at h2;rw[B9];exact⟨_,_,_,_,_,hr,hS _ _ _ _ _ _ _ h2⟩
     ·simp at h2
   ·simp at h2
end
theorem KT(F:Nat->Option IFn):∀n,SD F (XQ F n)
 |
  0=>fun ns cx k l rows low r h=>by
  have h:(none:RR)=some r:=h;simp at h
 |n+1=>RW (KT F n)
theorem Aae{F:Nat->Option IFn}{n f:Nat}{vs:List AV}{rows:List Row}{q:AV×List Row×Option Nat}(h:cQ F n f vs rows=some q):Ret F f vs rows=some q:=Hh (KT F n) _ _ _ _ h
def okQ:Option (AV×List Row×Option Nat)->Bool
 |some (.bool true,_,none)=>true
 |_=>false
theorem Rf{rows rows' R:List Row}{v:AV}{low:Nat}(h:fin rows v rows' low=(.bool true,R,none)):R=rows:=by
 unfold fin at h
 split at h
 ·split at h
  ·simp only[AcQ]at h
   exact h.2.1.symm
  ·rename_i hn
   split at h
   ·split at h
    ·split at h
     ·simp only[AcQ]at h
      cases v<;>simp_all[AV.ids,AV.ids.idsL,AV.ren1,AV.ren]
     ·simp only[AcQ]at h
      obtain⟨rfl,_⟩:=h;simp[AV.ids]at hn
    ·simp only[AcQ]at h
     obtain⟨rfl,_⟩:=h;simp[AV.ids]at hn
   ·simp only[AcQ]at h
    obtain⟨rfl,_⟩:=h;simp[AV.ids]at hn
 ·simp at h
theorem Ud{F:Nat->Option IFn}{n f:Nat}{vs:List AV}{rows:List Row}(h:okQ (cQ F n f vs rows)=true):Ret F f vs rows=some (.bool true,rows,none):=by
 unfold okQ at h
 split at h
 ·rename_i R e
  have e2:=Aae e;obtain⟨m,hm⟩:=Ret_iff.1 e2;unfold cF AE at hm
  split at hm
  ·unfold Dw at hm
   split at hm
   ·injection hm with hm
    rw[Rf hm]at e2;exact e2
   ·simp at hm
  ·simp at hm
 ·simp at h
theorem awT:okQ (cQ F 20000 19 [] gRows)=true:=by kernel_rfl
theorem Vf:Ret F 19 [] gRows=some (.bool true,gRows,none):=Ud awT
structure Sh where
 g:Nat
 X:List Row
namespace Sh
variable (S:Sh)
def n(i:Nat):Nat:=if i<S.g then i else i+S.X.length
def v:AV->AV
 |.ptr id off=>.ptr (S.n id) off
 |.slice id off len c=>.slice (S.n id) off len c
 |.map id=>.map (S.n id)
 |.yield id=>.yield (S.n id)
 |.func f cs=>.func f (vL cs)
 |.iface t x=>.iface t (v x)
 |.agg l=>.agg (vL l)
 |.tup l=>.tup (vL l)
 |x=>x
where vL:List AV->List AV
 |[]=>[]
 |x::l=>v x::vL l
theorem BJ:∀l:List AV,v.vL S l=l.map S.v
 |[]=>rfl
 |x::l=>by simp[v.vL,BJ l]
theorem XN(f:Nat)(cs:List AV):S.v (.func f cs) = .func f (cs.map S.v):=by simp[v,BJ]
theorem JM(l:List AV):S.v (.agg l) = .agg (l.map S.v):=by simp[v,BJ]
theorem Jj(l:List AV):S.v (.tup l) = .tup (l.map S.v):=by simp[v,BJ]
theorem n_lt{i j:Nat}:S.n i<S.n j↔i<j:=by unfold n;split<;>split<;>omega
theorem n_inj{i j:Nat}:S.n i=S.n j↔i=j:=by unfold n;split<;>split<;>omega
theorem n_ge{i:Nat}(h:S.g<=i):S.n i=i+S.X.length:=by unfold n;rw[if_neg (by omega)]
theorem n_lo{i:Nat}(h:i<S.g):S.n i=i:=by unfold n;rw[if_pos h]
mutual
theorem ids:∀x:AV,(S.v x).ids=x.ids.map S.n
 |.ptr ..=>by simp[v,AV.ids]
 |.slice ..=>by simp[v,AV.ids]
 |.map ..=>by simp[v,AV.ids]
 |.yield ..=>by simp[v,AV.ids]
 |.func f cs=>by simp only[v,AV.ids];exact idsL cs
 |.iface t x=>by simp only[v,AV.ids];exact ids x
 |.agg l=>by simp only[v,AV.ids];exact idsL l
 |.tup l=>by simp only[v,AV.ids];exact idsL l
 |.bool _=>by simp[v,AV.ids]
 |.int ..=>by simp[v,AV.ids]
 |.str _=>by simp[v,AV.ids]
 |.nilptr=>by simp[v,AV.ids]
 |.nilslice=>by simp[v,AV.ids]
 |.nilmap=>by simp[v,AV.ids]
 |.nilfunc=>by simp[v,AV.ids]
 |.niliface=>by simp[v,AV.ids]
 |.any=>by simp[v,AV.ids]
theorem idsL:∀l:List AV,AV.ids.idsL (v.vL S l)=(AV.ids.idsL l).map S.n
 |[]=>by simp[v.vL,AV.ids.idsL]
 |x::l=>by simp only[v.vL,AV.ids.idsL,AdB,ids x,idsL l]
end
@[simp] theorem one(x:AV):(S.v x).one=x.one:=by cases x<;>simp[v,AV.one]
@[simp] theorem cells(x:AV):(S.v x).cells=x.cells.map S.v:=by cases x<;>simp[v,AV.cells,BJ]
theorem Ii(l:List AV):(l.map S.v).all AV.one=l.all AV.one:=by simp[AeE,Function.comp_def]
def o:Opd->Opd
 |.t i=>.t i
 |.c x=>.c (S.v x)
def oo(x:Option Opd):Option Opd:=x.map S.o
def ps(l:List (Nat×Nat×Opd)):List (Nat×Nat×Opd):=l.map fun p=>(p.1,p.2.1,S.o p.2.2)
def i:IOp->IOp
 |.mv x=>.mv (S.o x)
 |.pick c a b=>.pick (S.o c) (S.o a) (S.o b)
 |.box x=>.box (S.o x)
 |.load1 a=>.load1 (S.o a)
 |.loadN k a=>.loadN k (S.o a)
 |.store1 a x=>.store1 (S.o a) (S.o x)
 |.storeN k a x=>.storeN k (S.o a) (S.o x)
 |.nilck x=>.nilck (S.o x)
 |.bin op x y=>.bin op (S.o x) (S.o y)
 |.eqv neg kd x y=>.eqv neg kd (S.o x) (S.o y)
 |.un op x=>.un op (S.o x)
 |.conv k x=>.conv k (S.o x)
 |.part1 off x=>.part1 off (S.o x)
 |.partN off k x=>.partN off k (S.o x)
 |.idxV len sz ag x j=>.idxV len sz ag (S.o x) (S.o j)
 |.fieldA off x=>.fieldA off (S.o x)
 |.idxA len sz x j=>.idxA len sz (S.o x) (S.o j)
 |.idxS sz x j=>.idxS sz (S.o x) (S.o j)
 |.mkagg zero l=>.mkagg (zero.map S.v) (S.ps l)
 |.mkslice len zero l=>.mkslice len (zero.map S.v) (S.ps l)
 |.make zero b l c=>.make (zero.map S.v) b (S.o l) (S.o c)
 |.sliceS sz x lo hi mx=>.sliceS sz (S.o x) (S.oo lo) (S.oo hi) (S.oo mx)
 |.sliceA k sz x lo hi mx=>.sliceA k sz (S.o x) (S.oo lo) (S.oo hi) (S.oo mx)
 |.mkfn f cs=>.mkfn f (cs.map S.o)
 |.bind f cs=>.bind f (cs.map S.o)
 |.mkmap=>.mkmap
 |.look z ok m k=>.look (S.v z) ok (S.o m) (S.o k)
 |.mset m k x=>.mset (S.o m) (S.o k) (S.o x)
 |.lenc k=>.lenc k
 |.len kd x=>.len kd (S.o x)
 |.cap x=>.cap (S.o x)
 |.mx xs=>.mx (xs.map S.o)
 |.mn xs=>.mn (xs.map S.o)
 |.app sz b s x=>.app sz b (S.o s) (S.o x)
 |.appz z s x=>.appz (z.map S.v) (S.o s) (S.o x)
 |.ext x j=>.ext (S.o x) j
 |.mkif t x=>.mkif t (S.o x)
 |.call tab f args=>.call tab (S.o f) (args.map S.o)
 |.bad=>.bad
def x(a:IOpx):IOpx:=⟨a.dst,S.i a.op,a.g⟩
def gl(l:List (IOpx×Nat)):List (IOpx×Nat):=l.map fun p=>(S.x p.1,p.2)
def s:Seg->Seg
 |.one a=>.one (S.x a)
 |.grp l=>.grp (S.gl l)
 |.grpw a y k b l=>.grpw (S.o a) (S.o y) k b (S.gl l)
 |.stop=>.stop
def c:ICode->ICode
 |.skip=>.skip
 |.ret=>.ret
 |.exit id=>.exit id
 |.seq a b=>.seq (c a) (c b)
 |.cond y a b=>.cond (S.o y) (c a) (c b)
 |.block id a=>.block id (c a)
 |.loop a=>.loop (c a)
 |.scope a=>.scope (c a)
 |.ops l=>.ops (l.map S.s)
 |.rf f pl a b=>.rf (S.o f) pl (c a) (c b)
 |.kill m l a=>.kill m l (c a)
 |.stop=>.stop
def t:Itm->Itm
 |.code a=>.code (S.c a)
 |.inBlock id=>.inBlock id
 |.inLoop a=>.inLoop (S.c a)
 |.inScope a=>.inScope (S.c a)
 |.ops l=>.ops (l.map S.s)
 |.rfBegin=>.rfBegin
def e(p:AV×AV):AV×AV:=(S.v p.1,S.v p.2)
def r:Row->Row
 |.cells vs=>.cells (vs.map S.v)
 |.ro vs=>.ro (vs.map S.v)
 |.mp es=>.mp (es.map S.e)
 |.loop st pend sl pl asg body=>.loop st pend (sl.map S.v) pl (S.c asg) (S.c body)
 |.mark=>.mark
 |.dead=>.dead
def h(rows:List Row):List Row:=(rows.take S.g).map S.r++S.X++(rows.drop S.g).map S.r
def x3(q:AV×List Row×Nat):AV×List Row×Nat:=(S.v q.1,S.h q.2.1,S.n q.2.2)
def x3o(q:AV×List Row×Option Nat):AV×List Row×Option Nat:=(S.v q.1,S.h q.2.1,q.2.2.map S.n)
variable {S}
theorem E2{rows:List Row}(hg:S.g<=rows.length):(S.h rows).length=S.n rows.length:=by
 rw[S.n_ge hg];simp[h];omega
theorem C3{rows:List Row}(hg:S.g<=rows.length)(id:Nat):(S.h rows)[S.n id]?=(rows[id]?).map S.r:=by
 unfold h;have hl:((rows.take S.g).map S.r).length=S.g:=by simp;omega
 by_cases hid:id<S.g
 ·rw[S.n_lo hid,AcL,AcD (by omega),Ac9,Aev,if_pos hid]
 ·rw[S.n_ge (by omega),AcG (by simp;omega),Ac9,Adr]
  simp only[AcO,hl];congr 2;omega
theorem Fj{rows:List Row}(hg:S.g<=rows.length)(id:Nat)(x:Row):(S.h rows).set (S.n id) (S.r x)=S.h (rows.set id x):=by
 unfold h;have hl:((rows.take S.g).map S.r).length=S.g:=by simp;omega
 by_cases hid:id<S.g
 ·rw[S.n_lo hid,AcL,List.set_append_left _ _ (by omega),<-List.map_set,List.take_set,List.drop_set_of_lt hid,AcL]
 ·rw[S.n_ge (by omega),AcW _ _ (by simp;omega),<-List.map_set]
  simp only[AcO,hl];rw[List.take_set_of_le (by omega),List.drop_set,if_neg (by omega)];congr 3;omega
theorem Di{rows L:List Row}(hg:S.g<=rows.length):S.h (rows++L)=S.h rows++L.map S.r:=by
 unfold h;rw[AdG hg,AdP hg,AdB];simp only[AcL]
theorem LF{rows:List Row}(hg:S.g<=rows.length)(id:Nat):Ae (S.h rows) (S.n id)=(Ae rows id).map (·.map S.v):=by
 unfold Ae;rw[C3 hg];cases rows[id]? with
 |none=>rfl
 |some y=>cases y<;>rfl
variable (S)
theorem Bh(sl:List AV)(x:Opd):Ak (sl.map S.v) (S.o x)=S.v (Ak sl x):=by
 cases x with
 |t i=>
  simp only[o,Ak,AdD,Ac9];cases sl[i]?<;>simp[v]
 |c y=>rfl
theorem GV(l:List AV)(a b:Nat):seg (l.map S.v) a b=(seg l a b).map (·.map S.v):=by
 unfold seg;rw[Adt]
 split<;>simp
theorem CL(l m:List AV)(a:Nat):splice (l.map S.v) a (m.map S.v)=(splice l a m).map S.v:=by simp[splice]
theorem JA{gg gg':Opd->AV}(hgg:∀x,gg' (S.o x)=S.v (gg x)):∀(l:List (Nat×Nat×Opd)) (cs:List AV),Ap gg' (S.ps l) (cs.map S.v)=(Ap gg l cs).map (·.map S.v)
 |[],cs=>rfl
 |
  (a,b,x)::l,cs=>by
  simp only[ps,AcY,Ap,hgg,cells,Adt,Ii]
  split
  ·rw[CL]
   exact JA hgg l _
  ·rfl
theorem Yc(op:BinOp)(a b:AV):Cy op (S.v a) (S.v b)=(Cy op a b).map S.v:=by
 cases a<;>first
  |(simp only[v,Cy];rfl)
  |(cases b<;>first
    |(simp only[v,Cy];rfl)
    |(
      simp only[v,Cy]
      split
      ·cases op<;>simp[Ll]<;>split<;>simp[v]
      ·split
       ·cases op<;>simp only[Jx]<;>first|rfl|(split<;>rfl)
       ·rfl))
theorem FK:∀xs ys:List AV,Aq (xs.map S.v) (ys.map S.v)=Aq xs ys
 |[],[]=>rfl
 |[],_::_=>by simp[Aq]
 |_::_,[]=>by simp[Aq]
 |
  a::xs,b::ys=>by
  cases a<;>cases b<;>simp only[AcY,v,Aq];rw[FK xs ys]
theorem RK(t n t1 t2:Nat)(a b:AV):N5 t n t1 t2 (S.v a) (S.v b)=N5 t n t1 t2 a b:=by
 cases a<;>cases b<;>first|rfl|simp only[v,N5]
 simp only[BJ,Adt,FK]
theorem Aap(kd:EqK)(a b:AV):eqA kd (S.v a) (S.v b)=eqA kd a b:=by
 cases kd<;>cases a<;>cases b<;>first|rfl|simp only[v,eqA]
 ·simp only[BJ,Adt,FK]
 ·exact RK S _ _ _ _ _ _
theorem AaH(op:UnOp)(a:AV):unA op (S.v a)=(unA op a).map S.v:=by
 cases a<;>cases op<;>simp only[v,unA]<;>rfl
theorem Kb{f:AV->AV->Option AV}(hf:∀a b,f (S.v a) (S.v b)=(f a b).map S.v):∀(l:List AV) (a:AV),C0 f (S.v a) (l.map S.v)=(C0 f a l).map S.v
 |[],a=>rfl
 |
  x::l,a=>by
  simp only[AcY,C0,hf];cases f a x with
  |none=>rfl
  |some b=>exact Kb hf l b
theorem AaG(a b:AV):mxA (S.v a) (S.v b)=(mxA a b).map S.v:=by
 cases a<;>cases b<;>first|rfl|(simp only[v,mxA];split<;>rfl)
theorem AaC(a b:AV):mnA (S.v a) (S.v b)=(mnA a b).map S.v:=by
 cases a<;>cases b<;>first|rfl|(simp only[v,mnA];split<;>rfl)
theorem DP(y:Option AV)(d k:Nat):Aj (y.map S.v) d k=Aj y d k:=by
 cases y with
 |none=>rfl
 |some a=>cases a<;>rfl
theorem KY(sz:Nat)(a:AV)(lo hi mx:Option AV):A8 sz (S.v a) (lo.map S.v) (hi.map S.v) (mx.map S.v)=(A8 sz a lo hi mx).map S.v:=by
 have e1:∀y:Option AV,(y.map S.v).isSome=y.isSome:=fun y=>by cases y<;>rfl
 have e2:∀y:Option AV,(y.map S.v).isNone=y.isNone:=fun y=>by cases y<;>rfl
 cases a<;>try rfl
 case slice id off len cp=>
  cases cp with
  |at_ k=>
   simp only[v,A8,DP,e1,e2];cases Aj mx k k with
   |none=>rfl
   |some q=>
    simp only;cases Aj hi len q with
    |none=>rfl
    |some w=>
     simp only;cases Aj lo 0 w with
     |none=>rfl
     |some u=>simp only;split<;>rfl
  |op k=>
   cases mx with
   |none=>
    simp only[v,A8,DP,e1,e2,Aen];cases Aj hi len len with
    |none=>rfl
    |some w=>
     simp only;cases Aj lo 0 w with
     |none=>rfl
     |some u=>simp only;split<;>rfl
   |some y=>
    have e3:=DP S (some y) len len;simp only[AcN]at e3;simp only[v,A8,DP,e1,e2,AcN,e3];cases Aj (some y) len len with
    |none=>rfl
    |some q=>
     simp only;cases Aj hi len q with
     |none=>rfl
     |some w=>
      simp only;cases Aj lo 0 w with
      |none=>rfl
      |some u=>
       simp only
       by_cases z1:hi.isNone=true
       ·simp[z1]
       ·by_cases z2:k=sz<;>simp[z1,z2,v]
 case nilslice=>
  simp only[v,A8,DP,e1,e2];cases Aj mx 0 0<;>cases Aj hi 0 0<;>cases Aj lo 0 0<;>simp only<;>first|rfl|(split<;>rfl)
theorem OB(a b:AV):Cx (S.v a) (S.v b)=Cx a b:=by cases a<;>cases b<;>rfl
theorem KA(k:AV):∀(es:List (AV×AV)) (j:Nat),CC (S.v k) (es.map S.e) j=(CC k es j).map fun q=>q.map fun p=>(p.1,S.v p.2)
 |[],j=>rfl
 |
  p::es,j=>by
  simp only[AcY,CC,e,OB];cases Cx k p.1 with
  |none=>rfl
  |some b=>
   cases b
   ·exact KA k es (j+1)
   ·rfl
end Sh
end Go.Abs
namespace Go.Abs
namespace Sh
variable (S:Sh)
theorem GP{gg gg':Opd->AV}(hgg:∀y,gg' (S.o y)=S.v (gg y))(l:List Opd):(l.map S.o).map gg'=(l.map gg).map S.v:=by
 simp[hgg,Function.comp_def]
theorem Ny{gg gg':Opd->AV}(hgg:∀y,gg' (S.o y)=S.v (gg y))(l:Option Opd):(S.oo l).map gg'=(l.map gg).map S.v:=by
 cases l<;>simp[oo,hgg]
theorem Hz{gg gg':Opd->AV}(hgg:∀y,gg' (S.o y)=S.v (gg y)){rows:List Row}(hg:S.g<=rows.length)(op:IOp):Af (S.h rows) gg' (S.i op)=(Af rows gg op).map S.v:=by
 cases op with
 |mv y=>simp only[i,Af,hgg,AcN]
 |pick y a b=>
  simp only[i,Af,hgg];cases gg y<;>try rfl
  simp only[v,AcN];split<;>rfl
 |load1 a=>
  simp only[i,Af,hgg];cases gg a<;>try rfl
  simp only[v,LF hg];cases Ae rows _ with
  |none=>rfl
  |some vs=>simp
 |loadN k a=>
  simp only[i,Af,hgg];cases gg a<;>try rfl
  simp only[v,LF hg];cases Ae rows _ with
  |none=>rfl
  |some vs=>
   simp only[AcN,GV];cases seg vs _ _<;>simp[JM]
 |nilck y=>
  simp only[i,Af,hgg];cases gg y<;>rfl
 |bin op a b=>simp only[i,Af,hgg,Yc]
 |eqv neg kd a b=>
  simp only[i,Af,hgg,Aap];cases eqA kd (gg a) (gg b)<;>rfl
 |un op a=>simp only[i,Af,hgg,AaH]
 |conv k a=>
  simp only[i,Af,hgg];cases gg a<;>rfl
 |part1 off a=>
  simp only[i,Af,hgg];cases gg a<;>try rfl
  simp[JM]
 |partN off k a=>
  simp only[i,Af,hgg];cases gg a<;>try rfl
  simp only[JM,GV];cases seg _ off k<;>simp[JM]
 |idxV len sz ag a j=>
  simp only[i,Af,hgg];cases gg a<;>try rfl
  cases gg j<;>try rfl
  simp only[JM,v,BJ];cases AI _ len with
  |none=>rfl
  |some q=>
   simp only
   split
   ·rw[GV];cases seg _ _ _<;>simp[JM]
   ·simp
 |fieldA off a=>
  simp only[i,Af,hgg];cases gg a<;>rfl
 |idxA len sz a j=>
  simp only[i,Af,hgg];cases gg a<;>try rfl
  cases gg j<;>try rfl
  simp only[v];cases AI _ len<;>rfl
 |idxS sz a j=>
  simp only[i,Af,hgg];cases gg a<;>try rfl
  cases gg j<;>try rfl
  simp only[v];cases AI _ _<;>rfl
 |mkagg z l=>
  simp only[i,Af,JA S hgg];cases Ap gg l z<;>simp[JM]
 |sliceS sz a lo hi mx=>simp only[i,Af,hgg,Ny S hgg,KY]
 |sliceA k sz a lo hi mx=>
  simp only[i,Af,hgg,Ny S hgg];cases gg a<;>try rfl
  rename_i id off;exact KY S sz (.slice id off k (.at_ k)) (lo.map gg) (hi.map gg) (mx.map gg)
 |mkfn f cs=>simp only[i,Af,GP S hgg,AcN,XN]
 |bind f cs=>simp only[i,Af,GP S hgg,AcN,v,BJ,AcY]
 |look z ok a b=>
  simp only[i,Af,hgg];cases gg a<;>try rfl
  ·rename_i id
   simp only[v,C3 hg];cases rows[id]? with
   |none=>rfl
   |some y=>
    cases y<;>try rfl
    simp only[AcN,r,KA];cases CC (gg b) _ 0 with
    |none=>rfl
    |some q=>
     cases q with
     |none=>simp only[AcN,Aen];cases ok<;>simp[Jj,v]
     |some p=>simp only[AcN];cases ok<;>simp[Jj,v]
  ·simp only[v,OB]
   cases Cx (gg b) (gg b)with
   |none=>rfl
   |some q=>simp only;cases ok<;>simp[v,BJ]
 |lenc k=>rfl
 |len kd a=>
  simp only[i,Af,hgg];cases gg a<;>(try (rcases kd with _|_|_|kd<;>rfl))
  rcases kd with _|_|_|kd<;>try rfl
  rename_i id;simp only[v,C3 hg];cases rows[id]? with
  |none=>rfl
  |some y=>cases y<;>simp[r,v]
 |cap a=>
  simp only[i,Af,hgg];cases gg a<;>try rfl
  rename_i c;cases c<;>rfl
 |mx xs=>
  simp only[i,Af,GP S hgg];cases xs.map gg with
  |nil=>rfl
  |cons a l=>exact Kb S (AaG S) l a
 |mn xs=>
  simp only[i,Af,GP S hgg];cases xs.map gg with
  |nil=>rfl
  |cons a l=>exact Kb S (AaC S) l a
 |ext a j=>
  simp only[i,Af,hgg];cases gg a<;>try rfl
  simp[Jj]
 |mkif ty a=>simp[i,Af,hgg,v]
 |_=>rfl
theorem Be(low id:Nat):Ab (S.n low) (S.n id)=S.n (Ab low id):=by
 unfold Ab
 by_cases h:id<low
 ·rw[if_pos h,if_pos (S.n_lt.2 h)]
 ·rw[if_neg h,if_neg (fun e=>h (S.n_lt.1 e))]
theorem Rk{rows:List Row}(hg:S.g<=rows.length)(sz:Nat)(a:AV):A5 (S.h rows) sz (S.v a)=(A5 rows sz a).map fun p=>(p.1.map S.v,p.2):=by
 cases a<;>try rfl
 simp only[v,A5,LF hg];cases Ae rows _ with
 |none=>rfl
 |some vs=>
  simp only[AcN,GV];cases seg vs _ _<;>simp
theorem OD(k:Nat)(z:List AV):(List.replicate k (z.map S.v)).flatten=((List.replicate k z).flatten).map S.v:=by
 induction k with
 |zero=>rfl
 |succ k ih=>rw[AdZ,AdZ,Aez,Aez,ih,AdB]
theorem Bg(l:List AV):S.r (.cells l) = .cells (l.map S.v):=rfl
theorem T6:S.v (.tup []) = .tup []:=by rw[Jj];rfl
theorem Qy{gg gg':Opd->AV}(hgg:∀y,gg' (S.o y)=S.v (gg y)){rows:List Row}(hg:S.g<=rows.length)(low:Nat)(op:IOp):Au gg' (S.h rows) (S.n low) (S.i op)=(Au gg rows low op).map S.x3/\∀q,Au gg rows low op=some q->rows.length<=q.2.1.length:=by
 have hP:∀op:IOp,(Af (S.h rows) gg' (S.i op)).map (fun w=>(w,S.h rows,S.n low))=((Af rows gg op).map fun w=>(w,rows,low)).map S.x3:=by
  intro op;rw[Hz S hgg hg];cases Af rows gg op<;>rfl
 have hP2:∀op:IOp,∀q,((Af rows gg op).map fun w=>(w,rows,low))=some q->rows.length<=q.2.1.length:=by
  intro op q e;rw[AcK]at e;obtain⟨w,_,rfl⟩:=e;exact AcE _
 have hlen:(S.h rows).length=S.n rows.length:=E2 hg;cases op with
 |box y=>
  simp only[i,Au,hgg,cells,Ii]
  by_cases h1:(gg y).cells.all AV.one=true
  ·rw[if_pos h1,if_pos h1]
   refine⟨?_,fun q e=>?_⟩
   ·simp only[AcN,x3,v,hlen,Di hg,AcY,Adn,Bg,AdB]
   ·injection e with e;subst e;simp
  ·rw[if_neg h1,if_neg h1]
   exact⟨rfl,fun q e=>by simp at e⟩
 |store1 a y=>
  simp only[i,Au,hgg];cases gg a<;>try exact⟨rfl,fun q e=>by simp at e⟩
  rename_i id off;simp only[v,C3 hg];cases hr:rows[id]? with
  |none=>exact⟨rfl,fun q e=>by simp at e⟩
  |some w=>
   cases w<;>try exact⟨rfl,fun q e=>by simp at e⟩
   rename_i vs;simp only[AcN,r,Adt,one]
   by_cases h1:off<vs.length/\(gg y).one=true
   ·rw[if_pos h1,if_pos h1]
    refine⟨?_,fun q e=>?_⟩
    ·simp only[AcN,x3,T6,Be,<-Fj hg,Bg,Aeh]
    ·injection e with e;subst e;simp
   ·rw[if_neg h1,if_neg h1]
    exact⟨rfl,fun q e=>by simp at e⟩
 |storeN k a y=>
  simp only[i,Au,hgg];cases gg a<;>try exact⟨rfl,fun q e=>by simp at e⟩
  rename_i id off;cases gg y<;>try exact⟨rfl,fun q e=>by simp at e⟩
  rename_i l;simp only[v,BJ,C3 hg];cases hr:rows[id]? with
  |none=>exact⟨rfl,fun q e=>by simp at e⟩
  |some w=>
   cases w<;>try exact⟨rfl,fun q e=>by simp at e⟩
   rename_i vs;simp only[AcN,r,Adt,Ii]
   by_cases h1:l.length=k/\off+k<=vs.length/\l.all AV.one=true
   ·rw[if_pos h1,if_pos h1]
    refine⟨?_,fun q e=>?_⟩
    ·simp only[AcN,x3,T6,Be,<-Fj hg,Bg,CL]
    ·injection e with e;subst e;simp
   ·rw[if_neg h1,if_neg h1]
    exact⟨rfl,fun q e=>by simp at e⟩
 |mkslice k z l=>
  simp only[i,Au,JA S hgg];cases Ap gg l z with
  |none=>exact⟨rfl,fun q e=>by simp at e⟩
  |some cs=>
   refine⟨?_,fun q e=>?_⟩
   ·simp only[AcN,x3,v,hlen,Di hg,AcY,Adn,Bg,AdB]
   ·simp only[AcI]at e;subst e;simp
 |make z b l cp=>
  simp only[i,Au,hgg];cases gg l<;>try exact⟨rfl,fun q e=>by simp at e⟩
  cases gg cp<;>try exact⟨rfl,fun q e=>by simp at e⟩
  simp only[v]
  split
  ·refine⟨?_,fun q e=>?_⟩
   ·simp only[AcN,x3,v,hlen,Di hg,AcY,Adn,Bg,OD]
   ·injection e with e;subst e;simp
  ·exact⟨rfl,fun q e=>by simp at e⟩
 |appz z a y=>
  simp only[i,Au,hgg];cases gg a<;>try exact⟨rfl,fun q e=>by simp at e⟩
  cases gg y<;>try exact⟨rfl,fun q e=>by simp at e⟩
  simp only[v]
  split
  ·refine⟨?_,fun q e=>?_⟩
   ·simp only[AcN,x3,v,hlen,Di hg,AcY,Adn,Bg,OD]
   ·injection e with e;subst e;simp
  ·exact⟨rfl,fun q e=>by simp at e⟩
 |mkmap=>
  refine⟨?_,fun q e=>?_⟩
  ·simp[i,Au,x3,v,hlen,Di hg,r]
  ·simp only[Au,AcI]at e;subst e;simp
 |mset a k y=>
  simp only[i,Au,hgg];cases gg a<;>try exact⟨rfl,fun q e=>by simp at e⟩
  rename_i id;simp only[v,C3 hg];cases hr:rows[id]? with
  |none=>exact⟨rfl,fun q e=>by simp at e⟩
  |some w=>
   cases w<;>try exact⟨rfl,fun q e=>by simp at e⟩
   rename_i es;simp only[AcN,r,KA];cases CC (gg k) es 0 with
   |none=>exact⟨rfl,fun q e=>by simp at e⟩
   |some q=>
    cases q with
    |none=>
     simp only[AcN,Aen,OB]
     split
     ·refine⟨?_,fun q e=>?_⟩
      ·simp only[AcN,x3,T6,Be,<-Fj hg,r,AdB,AcY,Adn,Sh.e]
      ·injection e with e;subst e;simp
     ·exact⟨rfl,fun q e=>by simp at e⟩
    |some p=>
     obtain⟨j,w⟩:=p;simp only[AcN];refine⟨?_,fun q e=>?_⟩
     ·simp only[x3,T6,Be,<-Fj hg,r,Aeh,Sh.e]
     ·injection e with e;subst e;simp
 |app sz b a y=>
  simp only[i,Au,hgg,Rk S hg];cases A5 rows sz (gg y)with
  |none=>exact⟨rfl,fun q e=>by simp at e⟩
  |some p=>
   obtain⟨ys,m⟩:=p;simp only[AcN]
   by_cases hm:m=0
   ·rw[if_pos hm,if_pos hm]
    cases hga:gg a with
    |nilslice=>exact⟨rfl,fun q e=>by injection e with e;subst e;exact AcE _⟩
    |slice=>exact⟨rfl,fun q e=>by injection e with e;subst e;exact AcE _⟩
    |_=>exact⟨rfl,fun q e=>by simp at e⟩
   ·rw[if_neg hm,if_neg hm]
    by_cases hm2:lim<m
    ·rw[if_pos hm2,if_pos hm2];exact⟨rfl,fun q e=>by simp at e⟩
    ·rw[if_neg hm2,if_neg hm2]
     cases gg a<;>try exact⟨rfl,fun q e=>by simp at e⟩
     ·rename_i id off k cp
      cases cp with
      |at_ c=>
       simp only[v]
       by_cases h1:lim<k+m
       ·rw[if_pos h1,if_pos h1];exact⟨rfl,fun q e=>by simp at e⟩
       ·rw[if_neg h1,if_neg h1]
        by_cases h2:k+m<=c
        ·rw[if_pos h2,if_pos h2,C3 hg]
         cases hr:rows[id]? with
         |none=>exact⟨rfl,fun q e=>by simp at e⟩
         |some w=>
          cases w<;>try exact⟨rfl,fun q e=>by simp at e⟩
          rename_i vs;simp only[AcN,r,Adt]
          split
          ·refine⟨?_,fun q e=>?_⟩
           ·simp only[AcN,x3,Be,<-Fj hg,Bg,CL,v]
           ·injection e with e;subst e;simp
          ·exact⟨rfl,fun q e=>by simp at e⟩
        ·rw[if_neg h2,if_neg h2,LF hg]
         cases Ae rows id with
         |none=>exact⟨rfl,fun q e=>by simp at e⟩
         |some vs=>
          simp only[AcN,GV];cases seg vs off (k*sz)with
          |none=>exact⟨rfl,fun q e=>by simp at e⟩
          |some xs=>
           refine⟨?_,fun q e=>?_⟩
           ·simp only[AcN,x3,v,hlen,Di hg,AcY,Adn,Bg,AdB]
           ·injection e with e;subst e;simp
      |op sz'=>
       simp only[v]
       by_cases h1:lim<k+m\/sz'≠sz
       ·rw[if_pos h1,if_pos h1];exact⟨rfl,fun q e=>by simp at e⟩
       ·rw[if_neg h1,if_neg h1,C3 hg]
        cases hr:rows[id]? with
        |none=>exact⟨rfl,fun q e=>by simp at e⟩
        |some w=>
         cases w<;>try exact⟨rfl,fun q e=>by simp at e⟩
         rename_i vs;simp only[AcN,r,GV];cases seg vs off (k*sz)with
         |none=>exact⟨rfl,fun q e=>by simp at e⟩
         |some xs=>
          refine⟨?_,fun q e=>?_⟩
          ·have hg':S.g<=(rows.set id .dead).length:=by simpa using hg
           have e1:(S.h rows).set (S.n id) .dead=S.h (rows.set id .dead):=Fj (S:=S) hg id .dead;simp only[AcN,x3,Be,e1,v,hlen,Di hg',AcY,Adn,Bg,AdB]
          ·injection e with e;subst e;simp
     ·refine⟨?_,fun q e=>?_⟩
      ·simp only[AcN,x3,v,hlen,Di hg,AcY,Adn,Bg,AdB]
      ·injection e with e;subst e;simp
 |call f args=>exact⟨rfl,fun q e=>by simp[Au,Af]at e⟩
 |bad=>exact⟨rfl,fun q e=>by simp[Au,Af]at e⟩
 |mv y=>exact⟨hP (.mv y),hP2 (.mv y)⟩
 |mkfn f cs=>exact⟨hP (.mkfn f cs),hP2 (.mkfn f cs)⟩
 |bind f cs=>exact⟨hP (.bind f cs),hP2 (.bind f cs)⟩
 |lenc k=>exact⟨hP (.lenc k),hP2 (.lenc k)⟩
 |mkif ty y=>exact⟨hP (.mkif ty y),hP2 (.mkif ty y)⟩
 |_=>exact⟨hP _,hP2 _⟩
end Sh
end Go.Abs
namespace Go.Abs
namespace Sh
variable (S:Sh)
theorem SB:S.v .any = .any:=by simp[v]
theorem Acg(sl:List AV)(t:Nat):(sl.map S.v).getD t .any=S.v (sl.getD t .any):=Bh S sl (.t t)
theorem Tp{rows:List Row}{b:Nat}(h1:S.g<=b)(h2:b<=rows.length):(S.h rows).take (S.n b)=S.h (rows.take b):=by
 have hg:S.g<=rows.length:=by omega
 have e:=Di (S:=S) (rows:=rows.take b) (L:=rows.drop b) (by simp;omega);rw[List.take_append_drop]at e;have hl:(S.h (rows.take b)).length=S.n b:=by
  rw[E2 (by simp;omega)];congr 1;simp;omega
 rw[e,AdG (by omega),Adq (by omega)]
theorem SA{rows:List Row}{b:Nat}(h1:S.g<=b)(h2:b<=rows.length):(S.h rows).drop (S.n b)=(rows.drop b).map S.r:=by
 have e:=Di (S:=S) (rows:=rows.take b) (L:=rows.drop b) (by simp;omega);rw[List.take_append_drop]at e;have hl:(S.h (rows.take b)).length=S.n b:=by
  rw[E2 (by simp;omega)];congr 1;simp;omega
 rw[e,AdP (by omega),AdA (by omega),AdI]
theorem X8(b:Nat)(l:List Nat):(l.map S.n).all (fun i=>decide (i<S.n b))=l.all fun i=>decide (i<b):=by
 simp only[AeE,Function.comp_def,S.n_lt]
theorem Ht(b:Nat)(a:AV):(S.v a).under (S.n b)=a.under b:=by
 unfold AV.under;rw[ids];exact X8 S b a.ids
theorem NS(b:Nat)(l:List AV):(l.map S.v).all (AV.under (S.n b))=l.all (AV.under b):=by
 simp only[AeE,Function.comp_def,Ht]
theorem PQ(b:Nat)(y:Row):(S.r y).under (S.n b)=y.under b:=by
 cases y<;>simp only[r,Row.under,NS];rename_i es;simp only[AeE,Function.comp_def,Sh.e,Ht]
theorem MZ(b:Nat)(l:List Row):(l.map S.r).all (Row.under (S.n b))=l.all (Row.under b):=by
 simp only[AeE,Function.comp_def,PQ]
theorem AN{b b':Nat}(h:b<=b'){a:AV}(ha:a.under b=true):a.under b'=true:=by
 unfold AV.under at *;rw[AcT]at *;intro x hx;have:=ha x hx;simp at *;omega
theorem runder_mono{b b':Nat}(h:b<=b'){y:Row}(hy:y.under b=true):y.under b'=true:=by
 have hL:∀l:List AV,l.all (AV.under b)=true->l.all (AV.under b')=true:=by
  intro l hl;rw[AcT]at *;exact fun x hx=>AN h (hl x hx)
 cases y<;>simp only[Row.under]at *<;>try exact hL _ hy
 rw[AcT]at *;intro x hx;have:=hy x hx;rw[Ac3]at *;exact⟨AN h this.1,AN h this.2⟩
variable (hX:∀y∈S.X,y.under (S.g+S.X.length)=true)
theorem KB(a:AV):(S.v a).plain=a.plain:=by
 cases a<;>simp only[v,AV.plain]<;>first
  |rfl
  |(rename_i x;have:=ids S (.func _ x);simp only[v]at this;simp[this])
  |skip
 all_goals
  first
  |(rename_i f cs;have e:=ids S (.func f cs);simp only[v]at e;rw[e];simp)
  |(rename_i f cs;have e:=ids S (.iface f cs);simp only[v]at e;rw[e];simp)
  |(rename_i f;have e:=ids S (.map f);simp only[v]at e;rw[e];simp)
  |(rename_i f;have e:=ids S (.yield f);simp only[v]at e;rw[e];simp)
  |(rename_i f;have e:=ids S (.agg f);simp only[v]at e;rw[e];simp)
  |(rename_i f;have e:=ids S (.tup f);simp only[v]at e;rw[e];simp)
theorem Ab3{a:AV}(h:∀l,a ≠ .tup l):∀l,S.v a ≠ .tup l:=by
 intro l;cases a<;>simp[v];exact absurd rfl (h _)
theorem IE{a:AV}(h:∀l,a ≠ .tup l):a.plain1=a.plain:=by
 cases a<;>first|rfl|exact absurd rfl (h _)
theorem N0{a:AV}(p q:Nat)(h:∀l,a ≠ .tup l):a.ren1 p q=a.ren p q:=by
 cases a<;>first|rfl|exact absurd rfl (h _)
theorem OC(a:AV):(S.v a).plain1=a.plain1:=by
 by_cases ht:∃l,a = .tup l
 ·obtain⟨l,rfl⟩:=ht
  rw[Jj];simp only[AV.plain1,AeE,Function.comp_def,KB]
 ·have h1:∀l,a ≠ .tup l:=fun l e=>ht ⟨l,e⟩
  rw[IE h1,IE (Ab3 S h1),KB]
theorem SN(p q:Nat)(a:AV):(S.v a).ren (S.n p) (S.n q)=S.v (a.ren p q):=by
 cases a<;>simp only[v,AV.ren,S.n_inj]<;>first|rfl|(split<;>rfl)
theorem VS(p q:Nat)(a:AV):(S.v a).ren1 (S.n p) (S.n q)=S.v (a.ren1 p q):=by
 by_cases ht:∃l,a = .tup l
 ·obtain⟨l,rfl⟩:=ht
  rw[Jj];simp only[AV.ren1,Jj,AeF];congr 1;apply AdM;intro x _;exact SN S p q x
 ·have h1:∀l,a ≠ .tup l:=fun l e=>ht ⟨l,e⟩
  rw[N0 _ _ h1,N0 _ _ (Ab3 S h1),SN]
theorem VM{rows:List Row}(hg:S.g<=rows.length)(sl:List AV)(y:RV):Ib (S.h rows) (sl.map S.v) y=(Ib rows sl y).map S.v:=by
 cases y with
 |t k=>simp only[Ib,Acg,AcN]
 |cell1 k=>exact Hz S (Bh S sl) hg (.load1 (.t k))
 |cellN k sz=>exact Hz S (Bh S sl) hg (.loadN sz (.t k))
theorem Lz{rows:List Row}(hg:S.g<=rows.length)(sl:List AV):∀l:List RV,C6 (S.h rows) (sl.map S.v) l=(C6 rows sl l).map (·.map S.v)
 |[]=>rfl
 |
  y::l=>by
  simp only[C6,VM S hg,Lz hg sl l];cases Ib rows sl y<;>cases C6 rows sl l<;>simp
theorem My{rows:List Row}(hg:S.g<=rows.length)(sl:List AV)(l:List RV):results (S.h rows) (sl.map S.v) l=(results rows sl l).map S.v:=by
 unfold results;rw[Lz S hg];cases C6 rows sl l with
 |none=>rfl
 |some q=>
  match q with
  |[]=>simp[T6]
  |[a]=>rfl
  |a::b::l=>simp[Jj]
def cx:Ctx->Ctx
 |.fn res=>.fn res
 |.round id=>.round (S.n id)
theorem HM{cx:Ctx}{j:Option Jump}{sl:List AV}{rows:List Row}{low:Nat}(hg:S.g<=rows.length){q:AV×List Row×Nat}(h:AU cx j ⟨sl,rows,low⟩=some q):AU (S.cx cx) j ⟨sl.map S.v,S.h rows,S.n low⟩=some (S.x3 q)/\rows.length<=q.2.1.length:=by
 cases cx with
 |fn res=>
  simp only[AU,Sh.cx]at h ⊢
  split at h
  ·simp at h
  ·rename_i hj
   rw[AcK]at h;obtain⟨w,hw,rfl⟩:=h;rw[My S hg,hw];exact⟨rfl,AcE _⟩
 |round id=>
  simp only[AU,Sh.cx]at h ⊢;rw[C3 hg]
  split at h
  ·rename_i hr
   rw[hr];injection h with h
   subst h;simp only[AcN,r];refine⟨?_,by simp⟩;simp only[x3,v,Be,<-Fj hg,r]
  ·simp at h
theorem O8(sl:List AV)(gd:Option (Nat×Bool)):BL (sl.map S.v) gd=BL sl gd:=by
 cases gd with
 |none=>rfl
 |some p=>
  obtain⟨t,b⟩:=p;simp only[BL,Acg];generalize sl.getD t AV.any=y;cases y<;>simp only[v];rename_i l;cases l<;>simp[v.vL]
theorem PT(a:AV)(args:List AV):target (S.v a) (args.map S.v)=(target a args).map fun p=>(p.1,p.2.map S.v):=by
 cases a<;>simp only[v,target]<;>try rfl
 simp[BJ]
theorem Mi(t:Nat)(a:AV):AG t (S.v a)=(AG t a).map fun p=>(p.1,p.2.map S.v):=by
 cases a with
 |agg l=>
  cases l with
  |nil=>simp[v,v.vL,AG]
  |cons x l=>
   cases x with
   |int k f=>
    cases k<;>simp only[v,v.vL,AG,Aen]
    by_cases h:t=bd
    ·simp[h,BJ]
    ·simp[h]
   |_=>simp[v,v.vL,AG]
 |_=>simp[v,AG]
theorem MC(tab:List (Nat×Nat))(a:AV)(args:List AV):Aw tab (S.v a) (args.map S.v)=(Aw tab a args).map fun p=>(p.1,p.2.map S.v):=by
 cases tab with
 |nil=>
  cases a<;>simp only[v,Aw]<;>try rfl
  ·simp[BJ]
  ·rw[Mi]
   cases AG _ _<;>simp
 |cons p tab=>
  cases a<;>simp only[v,Aw]<;>try rfl
  split
  ·rfl
  ·cases(p::tab).lookup _<;>simp
theorem PH(low:Nat)(d:Option Nat):AC (S.n low) (d.map S.n)=S.n (AC low d):=by
 cases d with
 |none=>rfl
 |some k=>exact Be S low k
theorem KF(sl:List AV)(d:Option Nat)(a:AV):BE (sl.map S.v) d (S.v a)=(BE sl d a).map S.v:=by
 cases d<;>simp[BE]
def ge(ext:List (Nat×Row)):List (Nat×Row):=ext.map fun p=>(p.1,S.r p.2)
theorem Vu(b:Nat)(ext:List (Nat×Row)):Ai b (S.ge ext)=(Ai b ext).map S.r:=by
 simp only[Ai,ge,AeF];apply AdM;intro p _;simp only[Function.comp_def]
 split<;>rfl
theorem Qx{rows:List Row}(hg:S.g<=rows.length)(R off k:Nat):Bf (S.h rows) (S.n R) off k=S.h (Bf rows R off k):=by
 unfold Bf;rw[C3 hg];cases rows[R]? with
 |none=>rfl
 |some w=>
  cases w<;>try rfl
  rename_i vs;simp only[AcN,r];rw[<-Fj hg];have:List.replicate k AV.any=(List.replicate k AV.any).map S.v:=by simp[v]
  rw[this,CL,<-this]
  rfl
theorem maskR_len(rows:List Row)(R off n:Nat):(Bf rows R off n).length=rows.length:=Abs.maskR_len rows R off n
theorem OZ{rows:List Row}(hg:S.g<=rows.length)(sl:List AV)(R off:Nat)(a y:Opd)(k:Option Nat):CG (sl.map S.v) (S.h rows) (S.n R) off (S.o a) (S.o y) k=(CG sl rows R off a y k).map S.r:=by
 unfold CG;rw[Bh];cases Ak sl a<;>try rfl
 rename_i id off;simp only[v,S.n_inj,C3 hg]
 split
 ·cases rows[id]? with
  |none=>rfl
  |some w=>
   cases w<;>try rfl
   rename_i vs;simp only[AcN,r];cases k with
   |none=>
    simp only[Bh,one,Adt]
    split
    ·simp[r]
    ·rfl
   |some m=>
    simp only[Bh];cases Ak sl y<;>try rfl
    rename_i ll;simp only[v,BJ,Adt,Ii]
    split
    ·simp[r,CL]
    ·rfl
 ·rfl
end Sh
end Go.Abs
namespace Go.Abs
namespace Sh
variable (S:Sh){F:Nat->Option IFn}
def f(fn:IFn):IFn:=⟨fn.ns,fn.res,S.c fn.body⟩
def F'(F:Nat->Option IFn):Nat->Option IFn:=fun k=>(F k).map S.f
theorem FV(id:Nat):∀k:List Itm,BB id (k.map S.t)=(BB id k).map (·.map S.t)
 |[]=>rfl
 |
  .inBlock j::k=>by
  simp only[AcY,t,BB]
  split
  ·rfl
  ·exact FV id k
 |.code _::k=>by simp only[AcY,t,BB];exact FV id k
 |.inLoop _::k=>by simp only[AcY,t,BB];exact FV id k
 |.inScope _::k=>by simp only[AcY,t,BB];exact FV id k
 |.ops _::k=>by simp only[AcY,t,BB];exact FV id k
 |.rfBegin::k=>by simp only[AcY,t,BB];exact FV id k
theorem QB(sl:List AV)(o:IOpx):AJ (sl.map S.v) (S.x o)=(AJ sl o).map fun p=>(S.n p.1,p.2.map S.v):=by
 obtain⟨d,op,gd⟩:=o;cases op<;>try rfl
 rename_i tab fo args;cases tab with
 |cons p tab=>rfl
 |nil=>
 simp only[AJ,Sh.x,i,Bh,O8,GP S (Bh S sl)];cases Ak sl fo<;>simp only[v]<;>first
  |(
    cases BL sl gd with
    |none=>rfl
    |some b=>cases b<;>rfl)
theorem VN(ps:List Nat):∀(sl vs:List AV),putL (sl.map S.v) ps (vs.map S.v)=(putL sl ps vs).map S.v:=by
 unfold putL
 induction ps with
 |nil=>intro sl vs;simp
 |cons p ps ih=>
  intro sl vs;cases vs with
  |nil=>simp
  |cons a vs=>
   simp only[AcY,List.zip_cons_cons,Aek];rw[<-List.map_set];exact ih _ _
theorem Um{rows:List Row}(hg:S.g<=rows.length)(cx:Ctx):KZ (S.cx cx) (S.h rows)=KZ cx rows:=by
 cases cx with
 |fn res=>rfl
 |round id=>
  simp only[KZ,Sh.cx,C3 hg];cases rows[id]? with
  |none=>rfl
  |some y=>cases y<;>rfl
theorem Og:∀(l:List Nat) (sl:List AV),Cr (sl.map S.v) l=(Cr sl l).map S.v
 |[],sl=>rfl
 |
  d::l,sl=>by
  simp only[Cr];rw[<-Og l,Aeh,SB]
theorem VQ(fn:IFn)(vs:List AV){rows:List Row}(hg:S.g<=rows.length):Me (S.f fn) (vs.map S.v) (S.h rows)=⟨(Me fn vs rows).sl.map S.v,S.h rows,S.n rows.length⟩:=by
 simp[Me,f,SB,E2 hg]
theorem VI(j:Option Jump):(RC j).map S.t=RC j:=by
 cases j with
 |none=>rfl
 |some j=>cases j<;>rfl
variable (hX:∀y∈S.X,y.under (S.g+S.X.length)=true)
end Sh
end Go.Abs
namespace Go.Abs
def shX(X:List Row):Sh:=⟨1,X⟩
theorem WT(X:List Row):tabF.map (fun p=>(p.1,(shX X).f p.2))=tabF:=by kernel_rfl
theorem GC{α:Type}(g:α->α)(k:Nat):∀l:List (Nat×α),(l.map fun p=>(p.1,g p.2)).lookup k=(l.lookup k).map g
 |[]=>rfl
 |
  (a,b)::l=>by
  simp only[AcY,List.lookup_cons]
  split
  ·rfl
  ·exact GC g k l
theorem Aco(X:List Row):(shX X).F' F=F:=by
 funext k;unfold Sh.F' F;rw[<-GC,WT]
theorem QF{x m:Int}(h:0<m)(hm:m<=9223372036854775807):∃r:Nat,IntKind.i64.wrap ((IntKind.u64.wrap x).tmod m)=r/\(r:Int)<m:=by
 have h0:0<=IntKind.u64.wrap x:=by
  simp[IntKind.wrap,IntKind.min,IntKind.max,IntKind.signed,IntKind.bits];omega
 have h1:=Int.tmod_lt_of_pos (IntKind.u64.wrap x) h;have h2:=Int.tmod_nonneg m h0;refine⟨((IntKind.u64.wrap x).tmod m).toNat,?_,?_⟩
 ·rw[AM (by omega) (by omega)];omega
 ·omega
def Cp(sz:Nat):AV->Prop
 |.slice _ _ n (.at_ c)=>n<=c
 |.slice _ _ _ (.op s)=>s=sz
 |_=>True
theorem Ac{low id:Nat}(h:low<=id):Ab low id=low:=by unfold Ab;split<;>omega
def Und(B H:List Row):Prop:=∀y∈H,y.under (B.length+H.length)=true
theorem BX{y:Row}{a b:Nat}(h:y.under a=true)(hab:a<=b):y.under b=true:=Sh.runder_mono hab h
theorem Kg{rows X H:List Row}(h1:Und rows X)(h2:Und (rows++X) H):Und rows (X++H):=by
 intro y hy;rcases Ac2.1 hy with hy|hy
 ·exact BX (h1 y hy) (by simp<;>omega)
 ·exact BX (h2 y hy) (by simp<;>omega)
theorem JO{rows:List Row}:Und rows []:=fun y hy=>by simp at hy
@[simp] theorem Bq{k:IntKind}{l:List Int}{b:Nat}:(Row.cells (Ad k l)).under b=true:=by simp[Row.under,AV.under,Ad]
section
variable {rows:List Row}{sz n:Nat}{v:AV}{cs:List AV}{fl:List Int}
theorem Bl(h:El rows sz v (Ad .i64 fl) n):fl.length=n*sz:=by have:=K9 h;simpa[Ad]using this
theorem DZ(h:El rows sz v cs n):evP rows (.len 0 (.c v))=some (.int .i64 n):=AF h
theorem B7(h:El rows sz v cs n){i:Nat}(hi:i<n):evP rows (.idxS sz (.c v) (.c (.int .i64 i)))=some (.ptr (sid v) (G1 v+i*sz)):=by
 rw[LC h (by omega) (by omega),Adf]
theorem F0(h:El rows sz v (Ad .i64 fl) n){j:Nat}(hj:j<fl.length):evP rows (.load1 (.c (.ptr (sid v) (G1 v+j))))=some (.int .i64 (gI fl j)):=by
 rw[DM h (by simpa[Ad]using hj),CS,NL hj];rfl
theorem Lv{l:List Int}{j m:Nat}(h:j+m<=l.length):seg (Ad .i64 l) j m=some (Ad .i64 ((l.drop j).take m)):=by
 unfold seg;rw[if_pos (by simpa[Ad]using h)];simp[Ad,List.map_drop,List.map_take]
theorem Acd(h:El rows sz v (Ad .i64 fl) n){j m:Nat}(hj:j+m<=fl.length)(hm:0<m):evP rows (.loadN m (.c (.ptr (sid v) (G1 v+j))))=some (.agg (Ad .i64 ((fl.drop j).take m))):=by
 rw[Gv h (by simpa[Ad]using hj) hm,Lv hj];rfl
theorem Yt{l:List Int}{j:Nat}(h:j+2<=l.length):(l.drop j).take 2=[gI l j,gI l (j+1)]:=by
 rw[Adp (by omega),Adp (by omega),CY (by omega),CY (by omega)]
 rfl
theorem XL{l:List Int}{j:Nat}(h:j+3<=l.length):(l.drop j).take 3=[gI l j,gI l (j+1),gI l (j+2)]:=by
 rw[Adp (by omega),Adp (by omega),Adp (by omega),CY (by omega),CY (by omega),CY (by omega)]
 rfl
theorem P3(h:El rows 2 v (Ad .i64 fl) n){i:Nat}(hi:i<n):evP rows (.loadN 2 (.c (.ptr (sid v) (G1 v+i*2))))=some (.agg [.int .i64 (gI fl (i*2)),.int .i64 (gI fl (i*2+1))]):=by
 have hl:=Bl h;rw[Acd h (by omega) (by omega),Yt (by omega)];rfl
theorem AaZ(h:El rows 3 v (Ad .i64 fl) n){i:Nat}(hi:i<n):evP rows (.loadN 3 (.c (.ptr (sid v) (G1 v+i*3))))=some (.agg [.int .i64 (gI fl (i*3)),.int .i64 (gI fl (i*3+1)),.int .i64 (gI fl (i*3+2))]):=by
 have hl:=Bl h;rw[Acd h (by omega) (by omega),XL (by omega)];rfl
theorem Yq(h:El rows sz v (Ad .i64 fl) n){i:Nat}(hi:i<n){c:Cap}:IsL rows (.slice (sid v) (G1 v+i*sz) sz c) ((fl.drop (i*sz)).take sz):=by
 have hl:=Bl h;have hle:i*sz+sz<=n*sz:=by
  have:=Ady sz (show i+1<=n from hi);rw[Aex,Nat.one_mul]at this;exact this
 have hlen:((fl.drop (i*sz)).take sz).length=sz:=by simp;omega
 rcases AP h with ⟨rfl,h1,h0⟩|⟨id,off,c',vs,rfl,hr,hs⟩
 ·omega
 ·have h2:=OL (j:=i*sz) (m:=sz) hs (by omega)
  rw[Lv (by omega)]at h2;have:=GD (n:=0) (c:=c) (l:=(fl.drop (i*sz)).take sz) (off:=off+i*sz) hr (by rw[hlen];exact h2);rw[hlen]at this;exact this
def Ln(rows H:List Row)(sz:Nat)(cs:List AV)(n:Nat):AV:=match cs with
 |[]=>.nilslice
 |_=>.slice (rows.length+H.length) 0 n (.op sz)
def BG(H:List Row)(cs:List AV):List Row:=match cs with
 |[]=>H
 |_=>H++[.cells cs]
def Wr(rows:List Row)(sz:Nat)(cs:List AV)(n:Nat):AV×List Row×Option Nat:=(Ln rows [] sz cs n,rows++BG [] cs,none)
@[simp] theorem RE{H:List Row}:Ln rows H sz [] n = .nilslice:=rfl
@[simp] theorem Le{H:List Row}:BG H []=H:=rfl
@[simp] theorem Ji{H:List Row}{x:AV}:Ln rows H sz (x::cs) n = .slice (rows.length+H.length) 0 n (.op sz):=rfl
@[simp] theorem ID{H:List Row}{x:AV}:BG H (x::cs)=H++[.cells (x::cs)]:=rfl
theorem DS{H:List Row}(hn:cs.length=n*sz)(hsz:0<sz):El (rows++BG H cs) sz (Ln rows H sz cs n) cs n/\Cp sz (Ln rows H sz cs n):=by
 cases cs with
 |nil=>
  have:n=0:=by
   rcases Aew.1 (show n*sz=0 from hn.symm)with h|h
   ·exact h
   ·omega
  subst this;exact⟨BY,trivial⟩
 |cons x cs=>
  refine⟨?_,rfl⟩;have hr:Ae (rows++BG H (x::cs)) (rows.length+H.length)=some (x::cs):=by
   unfold BG Ae;simp
  show A5 _ _ _=_;unfold Ln A5;simp only[hr];unfold seg;rw[if_pos (by omega),<-hn];simp
theorem Ks{H:List Row}(hH:H.all (Row.under 0)=true)(hc:(Row.cells cs).under 0=true):(BG H cs).all (Row.under 0)=true:=by
 cases cs with
 |nil=>exact hH
 |cons x cs=>simp only[ID,AdW,hH,AdH,hc];rfl
theorem Id{H:List Row}{x:List AV}{low b:Nat}(hn:cs.length=n*sz)(hx:x.length=sz)(hsz:0<sz)(hl:n<1000000000)(hlow:low<=rows.length)(hH:H.all (Row.under 0)=true)(hc:(Row.cells cs).under 0=true)(hxu:(Row.cells x).under 0=true):
  ∃H',H'.all (Row.under 0)=true/\evE (rows++(BG H cs++[.cells x])) low (.app sz b (.c (Ln rows H sz cs n)) (.c (.slice (rows.length+(BG H cs).length) 0 1 (.at_ 1))))=some (Ln rows H' sz (cs++x) (n+1),rows++BG H' (cs++x),low):=by
 have hr:Ae (rows++(BG H cs++[.cells x])) (rows.length+(BG H cs).length)=some x:=by
  unfold Ae;simp
 have htmp:El (rows++(BG H cs++[.cells x])) sz (.slice (rows.length+(BG H cs).length) 0 1 (.at_ 1)) x 1:=by
  unfold El A5;simp only[hr];unfold seg;rw[if_pos (by omega)];simp only[Aeg,AcN,Nat.one_mul];rw[Adq (by omega)]
 cases cs with
 |nil=>
  have h0:n=0:=by
   rcases Aew.1 (show n*sz=0 from hn.symm)with h|h
   ·exact h
   ·omega
  subst h0;refine⟨H++[.cells x],by simp only[AdW,hH,AdH,hxu];rfl,?_⟩;simp only[Le,RE]at htmp ⊢;rw[HJ htmp (by omega) (by simp[lim])];cases x with
  |nil=>simp at hx;omega
  |cons y x=>simp
 |cons y cs=>
  have hn':n*sz=(y::cs).length:=hn.symm;have hcell:cells? (rows++(BG H (y::cs)++[.cells x])) (rows.length+H.length)=some (y::cs):=by
   unfold cells?;simp
  refine⟨H++[.dead,.cells x],by simp only[AdW,hH,AdH,hxu];rfl,?_⟩;rw[Ji,Lr hcell (xs:=y::cs) (by unfold seg;rw[hn',if_pos (by omega)];simp) htmp (by omega) (by simp[lim];omega)];simp[Ac (show low<=rows.length+H.length by omega)]
theorem Fu(hc:(Row.cells cs).under 0=true):cs.all (·.ids.isEmpty)=true:=by
 simp only[Row.under,AcT]at hc ⊢;intro x hx;have:=hc x hx;cases h:x.ids with
 |nil=>rfl
 |cons i is=>simp[AV.under,h]at this
theorem TK{H:List Row}(hc:(Row.cells cs).under 0=true):fin rows (Ln rows H sz cs n) (rows++BG H cs) rows.length=Wr rows sz cs n:=by
 cases cs with
 |nil=>simp[Wr]
 |cons y cs=>
  simp only[Ji,ID,Wr];have:=E3 (rows:=rows) (L:=H++[.cells (y::cs)]) (k:=H.length) (o:=0) (n:=n) (c:=.op sz) (vs:=y::cs) (by simp) (Fu hc);simpa using this
theorem KQ{x:AV}{low b:Nat}(h:El rows sz x cs n)(hsz:0<sz)(hn:n<=1000000000):evE rows low (.app sz b (.c .nilslice) (.c x))=some (Ln rows [] sz cs n,rows++BG [] cs,low):=by
 have hl:=K9 h;cases n with
 |zero=>
  have:cs=[]:=by simpa using hl
  subst this;rw[AaX h (.inl rfl)];simp
 |succ n=>
  rw[HJ h (by omega) (by simp[lim];omega)];cases cs with
  |nil=>
   have:=Ad1 (show 0<n+1 by omega) hsz;rw[<-hl]at this;simp at this
  |cons y cs=>simp
end
open Go.Proofs Go.RowKit Go.ChangeShapes Go.WideShapes Go.ChangeAt Go.WideElems
structure ArgS where
 b:Nat
 o:Nat
 len:Nat
 cap:Nat
 zs:List Int
def Gg(W:World):Option ArgS->Prop
 |none=>True
 |some a=>(∀(i:Nat) (x:Int),a.zs[i]?=some x->W.cell? ⟨a.b,a.o+i,none⟩=some (.int .i64 x))/\a.b<W.heap.size
def MD(w:Nat):Option ArgS->Prop
 |none=>True
 |some a=>a.len<=a.cap/\a.cap<=maxLen/\a.zs.length=a.cap*w
def NH:Option ArgS->Row
 |none=>.dead
 |some a=>.ro (Ad .i64 a.zs)
def Ed(k:Nat):Option ArgS->AV
 |none=>.nilslice
 |some a=>.slice k 0 a.len (.at_ a.cap)
def Bv:Option ArgS->Value
 |none=>.slice none 0 0
 |some a=>.slice (some ⟨a.b,a.o,none⟩) a.len a.cap
def EI:Option ArgS->Nat
 |none=>0
 |some a=>a.len
def Co(w:Nat):Option ArgS->List Int
 |none=>[]
 |some a=>a.zs.take (a.len*w)
def Pc:Option ArgS->Option Loc
 |none=>none
 |some a=>some ⟨a.b,a.o,0⟩
def D0(l:List (Option ArgS)):List Row:=gRows++l.map NH
def aTh(l:List (Option ArgS)):Th:=fun id=>if id<1 then gTh id else(l[id-1]?).bind Pc
theorem AbB{κ:Fw}{W:World}{l:List (Option ArgS)}(h:laidMetH Tryd.prog Ke W)(hl:∀a∈l,Gg W a):HRel κ (aTh l) (D0 l) W:=by
 have hg:=Aa8 (κ:=κ) h;have hge:∀id L,1<=id->aTh l id=some L->∃a,l[id-1]?=some (some a)/\L=⟨a.b,a.o,0⟩:=by
  intro id L h2 e;unfold aTh at e;rw[if_neg (by omega)]at e;cases hx:l[id-1]? with
  |none=>rw[hx]at e;simp at e
  |some y=>
   rw[hx]at e;cases y with
   |none=>simp[Pc]at e
   |some a=>simp[Pc]at e;exact⟨a,rfl,e.symm⟩
 refine⟨?_,?_,?_,?_⟩
 ·intro id L e
  simp only[D0,gRows,AcO,AcU,Ac7,Adt]
  by_cases h2:id<1
  ·omega
  ·obtain⟨a,ha,_⟩:=hge id L (by omega) e
   have:=(AcF.1 ha).1;omega
 ·intro id L e
  by_cases h2:id<1
  ·unfold aTh at e
   rw[if_pos h2]at e;exact hg.blk id L e
  ·obtain⟨a,ha,rfl⟩:=hge id L (by omega) e
   exact(hl _ (Ac5 ha)).2
 ·intro id r e
  by_cases h2:id<1
  ·have e2:gRows[id]?=some r:=by
    unfold D0 at e;rwa[AcD (by simp[gRows];omega)]at e
   have:=hg.row id r e2;have ht:aTh l id=gTh id:=by unfold aTh;rw[if_pos h2]
   match id,h2 with
   |0,_=>
    injection e2 with e2;subst e2
    obtain⟨L,hL,hc⟩:=this;refine⟨L,ht.trans hL,fun j x hx=>?_⟩;rw[CS]at hx;obtain⟨n,hn,rfl⟩:=AcK.1 hx;obtain⟨x',h1,h3,h4⟩:=hc j (.int .i64 n) (by rw[CS,hn];rfl);cases h3;exact⟨_,h1,.int _ _,h4⟩
  ·unfold D0 at e
   rw[AcG (by simp[gRows];omega),show gRows.length=1 from rfl,Ac9]at e;obtain⟨y,hy,rfl⟩:=AcK.1 e;cases y with
   |none=>trivial
   |some a=>
    refine⟨⟨a.b,a.o,0⟩,?_,fun j x hx=>?_⟩
    ·unfold aTh
     rw[if_neg (by omega),hy]
     rfl
    ·rw[CS]at hx
     obtain⟨n,hn,rfl⟩:=AcK.1 hx;exact⟨_,(hl _ (Ac5 hy)).1 j n hn,.int _ _,rfl⟩
 ·intro i j r s L L' hij hr ho
  exfalso;have hm:=Ac5 hr;unfold D0 at hm;rw[Ac2]at hm;rcases hm with hm|hm
  ·simp[gRows]at hm
   rcases hm with rfl|rfl<;>simp[Row.owned]at ho
  ·obtain⟨y,_,rfl⟩:=Ad0.1 hm
   cases y<;>simp[NH,Row.owned]at ho
theorem Abv{l:List (Option ArgS)}:GRel (aTh l) [0]:=by
 intro i g e
 match i,e with
 |0,e=>injection e with e;subst e;exact⟨⟨0,0,0⟩,rfl,rfl,rfl⟩
 |n+1,e=>simp at e
theorem aV{l:List (Option ArgS)}{w k:Nat}{a:Option ArgS}(ha:l[k]?=some a)(hok:MD w a):V (aTh l) (Ed (1+k) a) (Bv a):=by
 cases a with
 |none=>exact .nilslice
 |some a=>
  have e:aTh l (1+k)=some ⟨a.b,a.o,0⟩:=by
   unfold aTh;rw[if_neg (by omega),show 1+k-1=k from by omega,ha]
   rfl
  exact .sliceAt e (fun _=>rfl) hok.1
theorem Iy{w:Nat}{a:Option ArgS}(hok:MD w a):EI a<=9223372036854775807:=by
 cases a with
 |none=>exact AcX _
 |some a=>
  obtain⟨h1,h2,_⟩:=hok;have:maxLen=9223372036854775807:=rfl;show a.len<=_;omega
theorem Fz{w:Nat}{a:Option ArgS}(hok:MD w a):(Co w a).length=EI a*w:=by
 cases a with
 |none=>simp[Co,EI]
 |some a=>
  obtain⟨h1,h2,h3⟩:=hok;have:=Ady w h1;simp only[Co,EI,AdQ];omega
theorem aEl{l:List (Option ArgS)}{w k:Nat}{a:Option ArgS}(ha:l[k]?=some a)(hok:MD w a):El (D0 l) w (Ed (1+k) a) (Ad .i64 (Co w a)) (EI a):=by
 have hlen:=Fz hok;cases a with
 |none=>exact rfl
 |some a=>
  obtain⟨h1,h2,h3⟩:=hok;have:=Ady w h1;have hr:Ae (D0 l) (1+k)=some (Ad .i64 a.zs):=by
   unfold Ae D0;rw[AcG (by simp[gRows]),show 1+k-gRows.length=k from by simp[gRows],Ac9,ha]
   rfl
  unfold El A5 Ed;simp only[hr,Co,EI];have:seg (Ad .i64 a.zs) 0 (a.len*w)=some (Ad .i64 (a.zs.take (a.len*w))):=by
   rw[DI,if_pos (by omega)];simp
  rw[this]
  rfl
theorem AbQ{l:List (Option ArgS)}{k:Nat}{a:Option ArgS}(ha:l[k]?=some a)(hok:MD 1 a):IsL (D0 l) (Ed (1+k) a) (Co 1 a):=by
 have:=aEl ha hok;unfold IsL;rw[Fz hok,Add];exact this
theorem C9{P:Program}{W:World}{H:Type}{enc:TypeId×Value->H}{spare held:_}{fuel w:Nat}{t e:TypeId}{v:Value}{x:_}(ht:P.underlying t=some (.slice e))(hc:P.cellsOf e=w)(hw:0<w)
  (hel0:∀n cs z,DataW.trod enc P W 0 spare held n e cs=some z->∀i,i<w->∃p:Int,cs[i]?=some (.int .i64 p))
  (hspt:∀y l c,v = .slice (some y) l c->y.spot=none/\y.block<W.heap.size)
  (hs:∀b,spare b=true) (h:DataW.trod enc P W 0 spare held fuel t [v]=some x):∃a:Option ArgS,v=Bv a/\Gg W a/\MD w a:=by
 rcases DataW.trod_slice ht h with ⟨h0,_⟩|⟨y,l,c,A5,rest,n,_,hcs,rfl,_,hl,hm,hlen,hel,hsp,_⟩
 ·simp at h0
  exact⟨none,h0,trivial,trivial⟩
 ·simp at hcs
  subst hcs;obtain⟨hrl,hr⟩:=hsp (hs _);obtain⟨hspt,hb⟩:=hspt _ _ _ rfl;obtain⟨b,o,sp⟩:=y;subst hspt;have ad:∀(b o i:Nat),(⟨b,o,none⟩:Addr).add i=(⟨b,o+i,none⟩:Addr):=by
   intro b o i;unfold Addr.add
   split
   ·rename_i h0;subst h0;rfl
   ·rfl
  have each:∀j,j<c->∀i,i<w->∃p:Int,W.cell? ⟨b,o+j*w+i,none⟩=some (.int .i64 p):=by
   intro j hj i hi;have hb:∃z,(W.cells? 0 ((⟨b,o,none⟩:Addr).add (j*w)) w).bind (DataW.trod enc P W 0 spare held n e)=some z:=by
    by_cases h1:j<l
    ·have:=hel j h1
     rw[hc]at this;rw[this];exact⟨_,AcR (by omega)⟩
    ·have:=hr (j-l) (by omega)
     rw[hc,show l+(j-l)=j by omega]at this;rw[this];exact⟨_,AcR (by omega)⟩
   obtain⟨z,hz⟩:=hb;rw[Option.bind_eq_some_iff]at hz;obtain⟨cs,hcs,hz⟩:=hz;obtain⟨p,hp⟩:=hel0 _ _ _ hz i hi;have:=(World.cells?_some hcs).2.2 i hi;rw[hp,ad,ad]at this;exact⟨p,this⟩
  have hcell:∀i,i<c*w->∃p:Int,W.cell? ⟨b,o+i,none⟩=some (.int .i64 p):=by
   intro i hi;obtain⟨p,h1⟩:=each (i/w) ((Nat.div_lt_iff_lt_mul hw).2 hi) (i%w) (Nat.mod_lt _ hw);rw[Adb,show i/w*w+i%w=i from by rw[AdR];exact Nat.div_add_mod _ _]at h1;exact⟨p,h1⟩
  let f:Nat->Int:=fun i=>match W.cell? ⟨b,o+i,none⟩with
   |some (.int .i64 p)=>p
   |_=>0
  refine⟨some ⟨b,o,l,c,(List.range (c*w)).map f⟩,rfl,⟨?_,hb⟩,hl,hm,by simp⟩;intro i x hx;have hi:i<c*w:=by have:=(AcF.1 hx).1;simpa using this
  obtain⟨p,hp⟩:=hcell i hi;have:x=p:=by
   have h2:f i=p:=by show(match W.cell? ⟨b,o+i,none⟩with|some (.int .i64 p)=>p|_=>0)=p;rw[hp]
   simp[hi]at hx;rw[<-hx,h2]
  rw[this];exact hp
theorem Yz{P:Program}{W:World}{H:Type}{enc:TypeId×Value->H}{spare held:_}{e:TypeId}(he:P.underlying e=some (.int .i64)):
  ∀n cs z,DataW.trod enc P W 0 spare held n e cs=some z->∀i,i<1->∃p:Int,cs[i]?=some (.int .i64 p):=by
 intro n cs z h i hi;obtain⟨p,hp,_⟩:=DataW.trod_int he h;subst hp;obtain rfl:i=0:=by omega
 exact⟨p,rfl⟩
theorem Sv{P:Program}{W:World}{H:Type}{enc:TypeId×Value->H}{spare held:_}{e i:TypeId}{w:Nat}(he:P.underlying e=some (.array w i))(hi:P.underlying i=some (.int .i64))(hc1:P.cellsOf i=1)(hcw:P.cellsOf e=w):
  ∀n cs z,DataW.trod enc P W 0 spare held n e cs=some z->∀k,k<w->∃p:Int,cs[k]?=some (.int .i64 p):=by
 intro n cs z h k hk;obtain⟨xs,m,_,_,hcl,hxl,hx⟩:=DataW.trod_array he h;have h0:=hx k hk;rw[hc1,AcR (by omega)]at h0;obtain⟨p,hp,_⟩:=DataW.trod_int hi h0;refine⟨p,?_⟩;have h1:((cs.drop (k*1)).take 1)[0]?=some (.int .i64 p):=by rw[hp];rfl
 rw[AcZ (by omega),Adr]at h1;simpa using h1
theorem Fd{P:Program}{W:World}{t e:TypeId}{b0:Nat}{v:Value}(ht:P.underlying t=some (.slice e))(hv:Cell.okWide P W .any b0 t v):∀y l c,v = .slice (some y) l c->y.spot=none/\y.block<W.heap.size:=by
 intro y l c e;subst e;simp only[ht,Cell.okWide,Cell.ok]at hv;obtain⟨_,_,_,hsp,row,cells,hsh,_⟩:=hv;refine⟨hsp,?_⟩;unfold World.shape? at hsh
 by_cases hlt:y.block<W.heap.size
 ·exact hlt
 ·rw[show W.heap[y.block]?=none from Array.getElem?_eq_none (by omega)]at hsh
  simp at hsh
theorem G0{P:Program}{W:World}{H:Type}{enc:TypeId×Value->H}{spare held:_}{fuel:Nat}{t e:TypeId}{v:Value}{x:_}{b0:Nat}(ht:P.underlying t=some (.slice e))(he:P.underlying e=some (.int .i64))(hc:P.cellsOf e=1)(hv:Value.okWide P W .any b0 t v)
  (hs:∀b,spare b=true) (h:DataW.trod enc P W 0 spare held fuel t [v]=some x):∃a:Option ArgS,v=Bv a/\Gg W a/\MD 1 a:=by
 have hv':Cell.okWide P W .any b0 t v:=by
  unfold Value.okWide at hv;rw[ht]at hv;exact hv
 exact C9 ht hc (by omega) (Yz he) (Fd ht hv') hs h
theorem M0{P:Program}{W:World}{H:Type}{enc:TypeId×Value->H}{spare held:_}{fuel:Nat}{t ti t2 t3 e2 e3:TypeId}{fs:Array Field}{f0 f1 f2:Field}{cs:Array Value}{x:_}{b0:Nat}(ht:P.underlying t=some (.struct fs))(hf0:fs[0]?=some f0)(hf1:fs[1]?=some f1)(hf2:fs[2]?=some f2)
  (h0:f0.type=ti/\f0.offset=0) (h1:f1.type=t2/\f1.offset=1) (h2:f2.type=t3/\f2.offset=2)
  (hi:P.underlying ti=some (.int .i64)) (hci:P.cellsOf ti=1) (ht2:P.underlying t2=some (.slice e2)) (hct2:P.cellsOf t2=1) (ht3:P.underlying t3=some (.slice e3)) (hct3:P.cellsOf t3=1)
  (he2:P.underlying e2=some (.array 2 ti)) (hc2:P.cellsOf e2=2) (he3:P.underlying e3=some (.array 3 ti)) (hc3:P.cellsOf e3=3) (hct:P.cellsOf t=3)
  (hcts:P.cellTypes P.depth t=some [ti,t2,t3])
  (hv:Value.okWide P W .any b0 t (.agg cs)) (hs:∀b,spare b=true) (h:DataW.trod enc P W 0 spare held fuel t cs.toList=some x):
  ∃(n:Int) (a b:Option ArgS),cs = #[.int .i64 n,Bv a,Bv b]/\Gg W a/\Gg W b/\MD 2 a/\MD 3 b:=by
 unfold Value.okWide at hv;rw[ht]at hv;obtain⟨cs',e,hsz,ts,hts,_,hcell⟩:=hv;simp only[Value.agg.injEq]at e;subst e;rw[hcts]at hts;injection hts with hts
 subst hts;rw[hct]at hsz;obtain⟨xs,m,_,_,hcl,hxl,hx⟩:=DataW.trod_struct ht h;have hx0:=hx 0 f0 hf0;have hx1:=hx 1 f1 hf1;have hx2:=hx 2 f2 hf2;rw[h0.1,h0.2,hci]at hx0;rw[h1.1,h1.2,hct2]at hx1;rw[h2.1,h2.2,hct3]at hx2;obtain⟨l⟩:=cs
 match l,hsz with
 |[u0,u1,u2],_=>
  simp only[Aeg,List.drop_succ_cons,List.take_succ_cons,List.take_zero]at hx0 hx1 hx2;have c1:Cell.okWide P W .any b0 t2 u1:=by
   obtain⟨u,hu,hok⟩:=hcell 1 u1 rfl;injection hu with hu
   subst hu;exact hok
  have c2:Cell.okWide P W .any b0 t3 u2:=by
   obtain⟨u,hu,hok⟩:=hcell 2 u2 rfl;injection hu with hu
   subst hu;exact hok
  have hxl3:2<xs.length:=by
   have:=(Array.getElem?_eq_some_iff.1 hf2).1;omega
  rw[AcR (by omega)]at hx0 hx1 hx2;obtain⟨n,hn,_⟩:=DataW.trod_int hi hx0;simp only[List.cons.injEq,and_true]at hn;subst hn;obtain⟨a,rfl,ha1,ha2⟩:=C9 ht2 hc2 (by omega) (Sv he2 hi hci hc2) (Fd ht2 c1) hs hx1;obtain⟨b,rfl,hb1,hb2⟩:=C9 ht3 hc3 (by omega) (Sv he3 hi hci hc3) (Fd ht3 c2) hs hx2;exact⟨n,a,b,rfl,ha1,hb1,ha2,hb2⟩
end Go.Abs
namespace Go.Abs
theorem Wb(low id:Nat):Ab low id<=low:=by unfold Ab;split<;>omega
theorem Xi(low:Nat)(d:Option Nat):AC low d<=low:=by
 cases d with
 |none=>exact AcE _
 |some i=>exact Wb low i
theorem NU{g:Opd->AV}{rows:List Row}{low:Nat}{o:IOp}{q:AV×List Row×Nat}(h:Au g rows low o=some q):q.2.2<=low:=by
 unfold Au at h
 split at h
 all_goals first
  |(rw[AcK]at h;obtain⟨v,_,rfl⟩:=h;exact AcE _)
  |skip
 all_goals
  repeat' split at h
  all_goals first
   |(simp at h;done)
   |(injection h with h;subst h;first|exact AcE _|exact Wb _ _)
   |(simp only[AcI]at h;subst h;first|exact AcE _|exact Wb _ _)
theorem Uo{call:C4}{sl:List AV}{rows:List Row}{low:Nat}{o:IOpx}{q:AV×List Row×Nat}(h:opR call sl rows low o=some q):q.2.2<=low:=by
 unfold opR at h
 split at h
 ·simp at h
 ·injection h with h;subst h;exact AcE _
 ·split at h
  ·split at h
   ·split at h
    ·injection h with h;subst h;exact Xi _ _
    ·simp at h
   ·simp at h
  ·exact NU h
theorem FR{cx:Ctx}{j:Option Jump}{s:St}{q:AV×List Row×Nat}(h:AU cx j s=some q):q.2.2<=s.low:=by
 unfold AU at h
 split at h
 ·split at h
  ·simp at h
  ·rw[AcK]at h;obtain⟨v,_,rfl⟩:=h;exact AcE _
 ·split at h
  ·injection h with h;subst h;exact Wb _ _
  ·simp at h
theorem I0{b low:Nat}{rows:List Row}{d:Option Nat}{q:List Itm×List Row×Nat}(h:AL b low rows d=some q):q.2.2=AC low d:=by
 unfold AL at h
 split at h
 ·split at h
  ·simp at h
  ·injection h with h;subst h;rfl
 ·simp at h
theorem Ic{F:Nat->Option IFn}:∀(n:Nat) (cx:Ctx) (k:List Itm) (s:St) (q:AV×List Row×Nat),exec F n cx k s=some q->q.2.2<=s.low:=by
 intro n
 induction n with
 |zero=>intro cx k s q h;simp[exec]at h
 |succ n ih=>
  intro cx k s q h;obtain⟨sl,rows,low⟩:=s;cases k with
  |nil=>rw[exec]at h;exact FR h
  |cons y k=>
   cases y with
   |inBlock id=>rw[exec]at h;exact ih _ _ _ _ h
   |inScope c=>rw[exec]at h;exact ih _ _ _ _ h
   |inLoop c=>rw[exec,St.force_eq]at h;exact ih _ _ _ _ h
   |rfBegin=>
    cases cx with
    |fn res=>simp[exec]at h
    |round id=>
     rw[exec]at h;simp only at h
     split at h
     ·exact AcP (ih _ _ _ _ h) (Wb _ _)
     ·simp at h
   |ops l=>
    cases l with
    |nil=>rw[exec]at h;exact ih _ _ _ _ h
    |cons sg l=>
     cases sg with
     |one o=>
      rw[exec]at h;simp only at h
      split at h
      ·split at h
       ·split at h
        ·split at h
         ·exact AcP (ih _ _ _ _ h) (Wb _ _)
         ·simp at h
        ·simp at h
       ·simp at h
      ·split at h
       ·rename_i hop
        exact AcP (ih _ _ _ _ h) (Uo hop)
       ·simp at h
     |grp g=>
      rw[exec]at h;simp only at h
      split at h
      ·have:=ih _ _ _ _ h;exact this
      ·simp at h
     |grpw a w z bb g=>
      rw[exec]at h;simp only[A6]at h
      split at h
      ·split at h
       ·split at h
        ·split at h
         ·exact AcP (ih _ _ _ _ h) (Wb _ _)
         ·simp at h
        ·simp at h
       ·simp at h
      ·simp at h
     |stop=>simp[exec]at h
   |code cc=>
    cases cc with
    |skip=>rw[exec]at h;exact ih _ _ _ _ h
    |ret=>rw[exec]at h;exact FR h
    |exit id=>
     rw[exec]at h
     split at h
     ·exact ih _ _ _ _ h
     ·exact FR h
    |seq a b=>rw[exec]at h;exact ih _ _ _ _ h
    |cond y a b=>
     rw[exec]at h
     split at h
     ·exact ih _ _ _ _ h
     ·simp at h
    |block id a=>rw[exec]at h;exact ih _ _ _ _ h
    |loop a=>rw[exec]at h;exact ih _ _ _ _ h
    |scope a=>rw[exec]at h;exact ih _ _ _ _ h
    |ops l=>simp only[exec,St.forceS_eq]at h;exact ih _ _ _ _ h
    |rf fo ps a b=>
     rw[exec]at h;simp only at h
     split at h
     ·split at h
      ·split at h
       ·split at h
        ·rename_i ha
         have:=I0 ha;exact AcP (ih _ _ _ _ h) (by simp only at this ⊢;rw[this];exact Xi _ _)
        ·simp at h
       ·simp at h
      ·simp at h
     ·simp at h
    |kill m l a=>rw[exec]at h;have:=ih _ _ _ _ h;exact this
    |stop=>simp[exec]at h
namespace Sh
variable (S:Sh){F:Nat->Option IFn}
theorem O2{b low:Nat}{a:AV}{rows:List Row}(h1:S.g<=b)(h2:b<=rows.length)(hlow:S.g<=low):gc (S.n b) (S.n low) (S.v a) (S.h rows)=S.h (gc b low a rows)/\b<=(gc b low a rows).length:=by
 have hall:(((S.h rows).take (S.n b)).drop (S.n low)).all (Row.under (S.n b))=((rows.take b).drop low).all (Row.under b):=by
  rw[Tp S h1 h2];have hl:S.g<=(rows.take b).length:=by simp;omega
  generalize rows.take b=R at hl ⊢
  by_cases hlR:low<=R.length
  ·rw[SA S hlow hlR,MZ]
  ·rw[AdA (by rw[E2 hl,S.n_ge hl,S.n_ge hlow];omega),AdA (by omega)]
   rfl
 unfold gc;rw[Ht,hall]
 split
 ·rw[Tp S h1 h2]
  exact⟨rfl,by simp;omega⟩
 ·exact⟨rfl,h2⟩
theorem V4{rows rows':List Row}{low:Nat}{a:AV}(h1:S.g<=rows.length)(h2:rows.length<=rows'.length)(hlow:S.g<=low):fin (S.h rows) (S.v a) (S.h rows') (S.n low)=S.x3o (fin rows a rows' low)/\rows.length<=(fin rows a rows' low).2.1.length:=by
 have hlen:(S.h rows).length=S.n rows.length:=E2 h1;unfold fin;rw[hlen];simp only[S.n_inj]
 by_cases hl:low=rows.length
 ·rw[if_pos hl,if_pos hl,ids,X8]
  by_cases ha:(a.ids.all fun x=>decide (x<rows.length))=true
  ·rw[if_pos ha,if_pos ha]
   exact⟨rfl,AcE _⟩
  ·rw[if_neg ha,if_neg ha]
   cases hi:a.ids with
   |nil=>exact⟨rfl,h2⟩
   |cons p l=>
    cases l with
    |cons _ _=>exact⟨rfl,h2⟩
    |nil=>
     simp only[AcY,Adn,C3 (AcP h1 h2)];cases rows'[p]? with
     |none=>exact⟨rfl,h2⟩
     |some y=>
      cases y<;>try exact⟨rfl,h2⟩
      rename_i vs;simp only[AcN,r,OC];have e:(vs.map S.v).all (fun x=>x.ids.isEmpty)=vs.all fun x=>x.ids.isEmpty:=by
       simp only[AeE,Function.comp_def,ids,List.isEmpty_map]
      rw[e]
      split
      ·refine⟨?_,by simp⟩
       simp only[x3o,VS,Di h1,AcY,Adn,Bg,Aen]
      ·exact⟨rfl,h2⟩
 ·rw[if_neg hl,if_neg hl]
  have:=O2 S (low:=low) (a:=a) h1 h2 hlow;refine⟨?_,this.2⟩;simp only[x3o,this.1,AcN]
def CallShL(call call':C4):Prop:=∀f vs rows q,call f vs rows=some q->S.g<=rows.length->(∀i,q.2.2=some i->S.g<=i)->call' f (vs.map S.v) (S.h rows)=some (S.x3o q)/\rows.length<=q.2.1.length
theorem Nq{call call':C4}(hc:S.CallShL call call'){sl:List AV}{rows:List Row}{low:Nat}{o:IOpx}(hg:S.g<=rows.length){q:AV×List Row×Nat}(h:opR call sl rows low o=some q)(hl:S.g<=q.2.2):opR call' (sl.map S.v) (S.h rows) (S.n low) (S.x o)=some (S.x3 q)/\rows.length<=q.2.1.length:=by
 unfold opR at h ⊢;simp only[Sh.x,O8]
 split at h
 ·simp at h
 ·injection h with h
  subst h;exact⟨by simp only[x3,T6],AcE _⟩
 ·split at h
  ·rename_i tab f args ho
   rw[ho];simp only[i,Bh,GP S (Bh S sl),MC]
   split at h
   ·rename_i fid vs ht
    rw[ht];simp only[AcN]
    split at h
    ·rename_i a rows' d hcall
     injection h with h
     subst h
     obtain⟨e1,e2⟩:=hc _ _ _ _ hcall hg (fun i hi=>by
      have hi':d=some i:=hi;subst hi';have:S.g<=Ab low i:=hl
      unfold Ab at this;split at this<;>omega)
     simp only[e1,x3o,x3,PH];exact⟨trivial,e2⟩
    ·simp at h
   ·simp at h
  ·rename_i op hne
   have e:=Qy S (Bh S sl) hg low o.op;have e2:=e.2 q h;have e1:=e.1;rw[h]at e1;refine⟨?_,e2⟩;cases hop:o.op<;>first
    |(rw[hop]at e1;exact e1)
    |(exact absurd hop (hne _ _ _))
theorem DH{call call':C4}(hc:S.CallShL call call'){B:Nat->List Row}(hg:∀p,S.g<=(B p).length):∀(l:List (IOpx×Nat)) (j:Nat) (sl:List AV) (ext:List (Nat×Row)) (q:List AV×List (Nat×Row)),At call B j l sl ext=some q->At call' (fun p=>S.h (B p)) j (S.gl l) (sl.map S.v) (S.ge ext)=some (q.1.map S.v,S.ge q.2)
 |
  [],j,sl,ext,q,h=>by
  simp only[At,AcI]at h;subst h
  rfl
 |
  (o,b)::l,j,sl,ext,q,h=>by
  simp only[At]at h;simp only[gl,AcY,At,Vu];have hgl:(S.ge ext).length=ext.length:=by simp[ge]
  have hlen:((B j)++Ai b ext).length=(B j).length+ext.length:=by simp[Ai]
  have e0:S.h (B j)++(Ai b ext).map S.r=S.h ((B j)++Ai b ext):=(Di (hg j)).symm;have e1:(S.h (B j)).length+(S.ge ext).length=S.n ((B j).length+ext.length):=by
   rw[E2 (hg j),hgl,S.n_ge (hg j),S.n_ge (by have:=hg j;omega)];omega
  rw[e0,e1]
  split at h
  ·rename_i a rows' low' hop
   split at h
   ·rename_i hl
    obtain⟨r1,r2⟩:=Nq S hc (by have:=hg j;omega) hop (by show S.g<=low';rw[hl];have:=hg j;omega);rw[r1];simp only[x3,S.n_inj];rw[if_pos hl];have e2:(S.h rows').drop (S.n ((B j).length+ext.length))=(rows'.drop ((B j).length+ext.length)).map S.r:=SA S (by have:=hg j;omega) (by simp only at r2;omega);rw[e2];have:=DH hc hg l (j+1) _ _ q h;simp only[gl,KF,ge,AdB,AeF,Function.comp_def]at this ⊢;simpa[Sh.x,KF,Function.comp_def]using this
   ·simp at h
  ·simp at h
theorem Pu{b low:Nat}{rows:List Row}{d:Option Nat}(h1:S.g<=b)(h2:b<=rows.length){q:List Itm×List Row×Nat}(h:AL b low rows d=some q)(hl:S.g<=AC low d):AL (S.n b) (S.n low) (S.h rows) (d.map S.n)=some (q.1.map S.t,S.h q.2.1,S.n q.2.2)/\b<=q.2.1.length:=by
 unfold AL at h ⊢;rw[C3 (by omega)]
 split at h
 ·rename_i hr
  rw[hr];simp only[AcN,r]
  split at h
  ·simp at h
  ·rename_i hb
   rw[if_neg hb];injection h with h
   subst h;have e:(S.h rows).set (S.n b) .dead=S.h (rows.set b .dead):=Fj (S:=S) (by omega) b .dead;have:=O2 S (b:=b) (low:=AC low d) (a:=.tup []) (rows:=rows.set b .dead) h1 (by simpa using h2) hl;rw[T6]at this;rw[e,PH,this.1];exact⟨by simp only[VI],this.2⟩
 ·simp at h
theorem Lf{n:Nat}(ih:∀(cx:Ctx) (k:List Itm) (s:St) (q:AV×List Row×Nat),exec F n cx k s=some q->S.g<=s.rows.length->S.g<=q.2.2->exec (S.F' F) n (S.cx cx) (k.map S.t) ⟨s.sl.map S.v,S.h s.rows,S.n s.low⟩=some (S.x3 q)/\s.rows.length<=q.2.1.length):S.CallShL (AE F (exec F n)) (AE (S.F' F) (exec (S.F' F) n)):=by
 intro fid vs rows q h hg hl;unfold AE at h ⊢;unfold Sh.F'
 split at h
 ·rename_i fn hfn
  rw[hfn];simp only[AcN];unfold Dw at h
  split at h
  ·rename_i a rows' low' hx
   injection h with h
   subst h;have hlow:S.g<=low':=by
    by_cases c:low'=rows.length
    ·omega
    ·exact hl low' (by rw[SP c])
   obtain⟨e1,e2⟩:=ih _ _ _ _ hx (by simpa[Me]using hg) hlow;have e3:=V4 S (low:=low') (a:=a) hg (by simpa[Me]using e2) hlow;refine⟨?_,e3.2⟩;rw[VQ S fn vs hg];have e4:exec (S.F' F) n (.fn (S.f fn).res) [.code (S.f fn).body] ⟨(Me fn vs rows).sl.map S.v,S.h rows,S.n rows.length⟩=some (S.x3 (a,rows',low')):=e1;unfold Sh.F' at e4;rw[e4];simp only[Dw,x3,e3.1]
  ·simp at h
 ·simp at h
theorem Q6:∀(n:Nat) (cx:Ctx) (k:List Itm) (s:St) (q:AV×List Row×Nat),exec F n cx k s=some q->S.g<=s.rows.length->S.g<=q.2.2->exec (S.F' F) n (S.cx cx) (k.map S.t) ⟨s.sl.map S.v,S.h s.rows,S.n s.low⟩=some (S.x3 q)/\s.rows.length<=q.2.1.length:=by
 intro n
 induction n with
 |zero=>intro cx k s q h;simp[exec]at h
 |succ n ih=>
  intro cx k s q h hg hlq;have hc:=Lf S ih;obtain⟨sl,rows,low⟩:=s
  replace hg:S.g<=rows.length:=hg
  cases k with
  |nil=>
   rw[exec]at h;rw[Adn,exec];exact HM S hg h
  |cons y k=>
   rw[AcY];cases y with
   |inBlock id=>rw[exec]at h;rw[t,exec];exact ih _ _ _ _ h hg hlq
   |inScope c=>rw[exec]at h;rw[t,exec];exact ih _ _ _ _ h hg hlq
   |inLoop c=>rw[exec,St.force_eq]at h;rw[t,exec,St.force_eq];exact ih _ _ _ _ h hg hlq
   |rfBegin=>
    cases cx with
    |fn res=>simp[exec]at h
    |round id=>
     rw[exec]at h;rw[t,Sh.cx,exec];simp only[C3 hg]at h ⊢;cases hr:rows[id]? with
     |none=>simp[hr]at h
     |some w=>
      simp only[hr]at h;cases w<;>try (simp at h;done)
      rename_i st pend sl1 ps asg body;cases st<;>try (simp at h;done)
      simp only at h;obtain⟨e1,e2⟩:=ih _ _ _ _ h (by simpa using hg) hlq;refine⟨?_,by simpa using e2⟩;simp only[AcN,r,Be];rw[<-Fj hg]at e1;exact e1
   |ops l=>
    cases l with
    |nil=>rw[exec]at h;rw[t,Adn,exec];exact ih _ _ _ _ h hg hlq
    |cons sg l=>
     cases sg with
     |one o=>
      rw[exec]at h;rw[t,AcY,s,exec];simp only[QB]at h ⊢;cases hy:AJ sl o with
      |some p=>
       obtain⟨id,vs⟩:=p;rw[hy]at h;simp only[AcN,C3 hg]at h ⊢;cases hr:rows[id]? with
       |none=>rw[hr]at h;simp at h
       |some w=>
        rw[hr]at h;cases w<;>try (simp at h;done)
        rename_i st pend sl1 ps asg body;simp only[AcN,r,Adt]at h ⊢
        split at h
        ·rename_i hl
         rw[if_pos hl]
         split at h
         ·rename_i a rows' low' hx
          have hl1:S.g<=Ab low low':=AcP hlq (Ic _ _ _ _ _ h);have hl2:S.g<=low':=by unfold Ab at hl1;split at hl1<;>omega
          obtain⟨e1,e2⟩:=ih _ _ _ _ hx hg hl2;simp only at e2;have e3:=O2 S (b:=rows.length) (low:=Ab low low') (a:=a) (rows:=rows') hg e2 hl1;obtain⟨e4,e5⟩:=ih _ _ _ _ h (by simp only;omega) hlq;simp only at e4 e5;refine⟨?_,by omega⟩;have e6:exec (S.F' F) n (.round (S.n id)) [.code (S.c asg),.rfBegin,.code (S.c body)] ⟨putL (sl1.map S.v) ps (vs.map S.v),S.h rows,(S.h rows).length⟩=some (S.x3 (a,rows',low')):=by
           rw[VN,E2 hg];exact e1
          rw[e6];simp only[x3,E2 hg,Be,e3.1,KF];exact e4
         ·simp at h
        ·simp at h
      |none=>
       rw[hy]at h;simp only[Aen]at h ⊢
       split at h
       ·rename_i a rows' low' hop
        obtain⟨e1,e2⟩:=Nq S hc hg hop (AcP hlq (Ic _ _ _ _ _ h));rw[e1];simp only[x3]at e2 ⊢;obtain⟨e4,e5⟩:=ih _ _ _ _ h (by simp only;omega) hlq;simp only at e4 e5;refine⟨?_,by omega⟩;rw[show(S.x o).dst=o.dst from rfl,KF];exact e4
       ·simp at h
     |grp g=>
      rw[exec]at h;rw[t,AcY,s,exec];simp only at h ⊢
      split at h
      ·rename_i sl' ext hop
       have e1:=DH S hc (fun _=>hg) _ _ _ _ _ hop;rw[show S.ge []=[]from rfl]at e1;rw[e1];obtain⟨e4,e5⟩:=ih _ _ _ _ h (by simp;omega) hlq;simp only at e4 e5;refine⟨?_,by simp at e5;omega⟩;rw[Di hg,AeF]at e4;simp only[ge,AeF];exact e4
      ·simp at h
     |grpw a w z bb g=>
      rw[exec]at h;rw[t,AcY,s,exec];simp only at h ⊢
      split at h
      ·rename_i sl0 ext0 hop0
       have e0:=DH S hc (fun _=>hg) _ _ _ _ _ hop0;rw[show S.ge []=[]from rfl]at e0;rw[e0];simp only[Bh]
       split at h
       ·rename_i R off hR
        rw[hR];simp only[v,A6]at h ⊢
        split at h
        ·rename_i sl' ext hop
         have e1:=DH S hc (B:=BT rows (Bf rows R off (z.getD 1)) bb) (fun p=>by unfold BT;split;exact hg;rw[maskR_len];exact hg) _ _ _ _ _ hop;rw[show S.ge []=[]from rfl]at e1;have eB:BT (S.h rows) (Bf (S.h rows) (S.n R) off (z.getD 1)) bb=fun p=>S.h (BT rows (Bf rows R off (z.getD 1)) bb p):=by
          funext p;unfold BT;rw[Qx S hg]
          split<;>rfl
         rw[eB,e1];simp only[OZ S hg]
         split at h
         ·rename_i r' hr
          rw[hr];simp only[AcN];obtain⟨e4,e5⟩:=ih _ _ _ _ h (by simp;omega) hlq;simp only at e4 e5;refine⟨?_,by simp at e5;omega⟩;rw[Di (by simpa using hg),<-Fj hg,AeF]at e4;simp only[ge,AeF,Be];exact e4
         ·simp at h
        ·simp at h
       ·simp at h
      ·simp at h
     |stop=>simp[exec]at h
   |code cc=>
    rw[t];cases cc with
    |skip=>rw[exec]at h;rw[c,exec];exact ih _ _ _ _ h hg hlq
    |ret=>rw[exec]at h;rw[c,exec];exact HM S hg h
    |exit id=>
     rw[exec]at h;rw[c,exec];simp only[FV]at h ⊢;cases hp:BB id k with
     |some k'=>rw[hp]at h;simp only[AcN]at h ⊢;exact ih _ _ _ _ h hg hlq
     |none=>rw[hp]at h;simp only[Aen]at h ⊢;exact HM S hg h
    |seq a b=>rw[exec]at h;rw[c,exec];exact ih _ _ _ _ h hg hlq
    |cond y a b=>
     rw[exec]at h;rw[c,exec];simp only[Bh]at h ⊢;cases hy:Ak sl y<;>rw[hy]at h<;>try (simp at h;done)
     rename_i tt;simp only[v]at h ⊢;have e:=ih _ _ _ _ h hg hlq;cases tt<;>exact e
    |block id a=>rw[exec]at h;rw[c,exec];exact ih _ _ _ _ h hg hlq
    |loop a=>rw[exec]at h;rw[c,exec];exact ih _ _ _ _ h hg hlq
    |scope a=>rw[exec]at h;rw[c,exec];exact ih _ _ _ _ h hg hlq
    |ops l=>simp only[exec,St.forceS_eq]at h;simp only[c,exec,St.forceS_eq];exact ih _ _ _ _ h hg hlq
    |rf fo ps a b=>
     rw[exec]at h;rw[c,exec];simp only[Um S hg]at h ⊢
     split at h
     ·rename_i hok
      rw[if_pos hok]
      split at h
      ·rename_i fid vs ht
       have e0:target (Ak (sl.map S.v) (S.o fo)) [.yield (S.h rows).length]=some (fid,vs.map S.v):=by
        have:=PT S (Ak sl fo) [.yield rows.length];rw[ht]at this;rw[Bh,E2 hg];exact this
       rw[e0];simp only
       split at h
       ·rename_i a' rows' d hop
        split at h
        rotate_left
        ·simp at h
        rename_i k0 rows2 low2 ha;have hal:=I0 ha;have hl1:S.g<=AC low d:=by
         rw[<-hal];exact AcP hlq (Ic _ _ _ _ _ h)
        obtain⟨e1,e2⟩:=hc _ _ _ _ hop (by simp;omega) (fun i hi=>by
         have hi':d=some i:=hi;subst hi';have:S.g<=Ab low i:=hl1
         unfold Ab at this;split at this<;>omega)
        rw[Di hg]at e1;have e1':AE (S.F' F) (exec (S.F' F) n) fid (vs.map S.v) (S.h rows++[.loop .ready none (sl.map S.v) ps (c S a) (c S b)])=some (S.x3o (a',rows',d)):=e1;rw[e1'];simp only[x3o];simp at e2;obtain⟨e3,e4⟩:=Pu S hg (by omega) ha hl1;rw[E2 hg,e3];simp only;obtain⟨e5,e6⟩:=ih _ _ _ _ h (by simp only at e4 ⊢;omega) hlq;simp only at e4 e5 e6;refine⟨?_,by omega⟩;rw[AdB]at e5;exact e5
       ·simp at h
      ·simp at h
     ·simp at h
    |kill m l a=>
     rw[exec]at h;rw[c,exec];obtain⟨e1,e2⟩:=ih _ _ _ _ h hg hlq;refine⟨?_,e2⟩;simp only[Og];exact e1
    |stop=>simp[exec]at h
theorem ret_okL(hF:S.F' F=F){fid:Nat}{vs:List AV}{rows:List Row}{q:AV×List Row×Option Nat}(hg:S.g<=rows.length)(h:Ret F fid vs rows=some q)(hl:∀i,q.2.2=some i->S.g<=i):Ret F fid (vs.map S.v) (S.h rows)=some (S.x3o q):=by
 obtain⟨n,hn⟩:=Ret_iff.1 h;obtain⟨e1,_⟩:=Lf S (Q6 S n) _ _ _ _ hn hg hl;rw[hF]at e1;exact EK (n:=n) e1
end Sh
theorem Nx{X:List Row}:Ret F 19 [] (gRows++X)=some (.bool true,gRows++X,none):=by
 have h:=Sh.ret_okL (shX X) (Aco X) (rows:=gRows) (AcE 1) Vf (fun i h=>by simp at h);have e1:(shX X).h gRows=gRows++X:=by
  have e:∀l:List Int,(Ad .i64 l).map (shX X).v=Ad .i64 l:=fun l=>by simp[Ad,Sh.v,Function.comp_def]
  simp[Sh.h,shX,gRows];simp[Sh.r];exact e _
 rw[e1]at h;simpa[Sh.x3o,e1,Sh.v]using h
theorem UV(l:List (Option ArgS))(H:List Row):Ret F 19 [] (D0 l++H)=some (.bool true,D0 l++H,none):=by
 have:=Nx (X:=l.map NH++H);simpa[D0]using this
variable {F:Nat->Option IFn}{cx:Ctx}{k:List Itm}{s:St}{l:List (Nat×AV)}{rows:List Row}{low:Nat}{r:AV×List Row×Nat->Prop}
@[simp] theorem uc15k0:X0 F cx k l rows low r 164 c15k0↔eb rows (.loadN 3 (cl l 3)) fun v0=>bnd (evE rows low (.storeN 3 (cl l 2) (.c v0))) fun q1=>Y0 F cx k r q1.2.1 q1.2.2 164 [(163,v0),(2,lk l 2),(3,lk l 3)]:=rg
@[simp] theorem uc15s1:U c15s1 (.seq c15k0 .ret):=ur
@[simp] theorem uc15k3:X0 F cx k l rows low r 164 c15k3↔eb rows (.bin .add (cl l 12) (ci 1)) fun v0=>Y0 F cx k r rows low 164 ([(12,v0),(102,v0),(101,lk l 12)]++kp l Qn):=rg
@[simp] theorem uc15k5:X0 F cx k l rows low r 164 c15k5↔eb rows (.bin .add (cl l 13) (ci 1)) fun v0=>Y0 F cx k r rows low 164 ([(13,v0),(110,v0),(109,lk l 13)]++kp l P9):=rg
@[simp] theorem uc15k7:X0 F cx k l rows low r 164 c15k7↔eb rows (.bin .add (cl l 14) (ci 1)) fun v0=>Y0 F cx k r rows low 164 ([(14,v0),(118,v0),(117,lk l 14)]++kp l P8):=rg
@[simp] theorem uc15k8:X0 F cx k l rows low r 164 c15k8↔eb rows (.mkagg [.int .i64 0,.int .i64 0,.int .i64 0] [(0,1,(cl l 12)),(1,1,(cl l 13)),(2,1,(cl l 14))]) fun v0=>bnd (evE rows low (.mkslice 1 [.int .i64 0,.int .i64 0,.int .i64 0] [(0,3,(.c v0))])) fun q1=>bnd (evE q1.2.1 q1.2.2 (.app 3 24 (cl l 15) (.c q1.1))) fun q2=>bnd (evP q2.2.1 (.fieldA 2 (cl l 3))) fun v3=>bnd (evE q2.2.1 q2.2.2 (.store1 (.c v3) (.c q2.1))) fun q4=>Y0 F cx k r q4.2.1 q4.2.2 164 ([(162,v3),(161,q2.1),(160,q1.1),(159,v0),(158,lk l 14),(157,lk l 13),(156,lk l 12),(155,lk l 15)]++kp l Wm):=rg
@[simp] theorem uc15s9:U c15s9 (.cond (.t 154) c15k8 .skip):=ur
@[simp] theorem uc15k10:X0 F cx k l rows low r 164 c15k10↔eb rows (.loadN 3 (cl l 3)) fun v0=>bnd (Ret F 60 [v0,lk l 12,lk l 13] rows) fun q1=>bnd (evP q1.2.1 (.bin .geq (.c q1.1) (ci 0))) fun v2=>bnd (gv v2 true (evP q1.2.1 (.loadN 3 (cl l 3)))) fun v3=>bnd (gv v2 true (evP q1.2.1 (.mv (cl l 12)))) fun v4=>bnd (gv v2 true (evP q1.2.1 (.mv (cl l 14)))) fun v5=>CF F v2 true q1.2.1 (AC low q1.2.2) [v3,v4,v5] [] (.func 60 []) fun v6 R6 L6=>bnd (gv v2 true (evP R6 (.bin .geq (.c v6) (ci 0)))) fun v7=>bnd (evP R6 (.pick (.c v2) (.c v7) (.c (.bool false)))) fun v8=>bnd (gv v8 true (evP R6 (.loadN 3 (cl l 3)))) fun v9=>bnd (gv v8 true (evP R6 (.mv (cl l 13)))) fun v10=>bnd (gv v8 true (evP R6 (.mv (cl l 14)))) fun v11=>CF F v8 true R6 L6 [v9,v10,v11] [] (.func 60 []) fun v12 R12 L12=>bnd (gv v8 true (evP R12 (.bin .geq (.c v12) (ci 0)))) fun v13=>bnd (evP R12 (.pick (.c v8) (.c v13) (.c (.bool false)))) fun v14=>bnd (gv v14 true (evP R12 (.mv (cl l 15)))) fun v15=>bnd (gv v14 true (evP R12 (.len 0 (.c v15)))) fun v16=>bnd (gv v14 true (evP R12 (.bin .lss (.c v16) (ci 6)))) fun v17=>bnd (evP R12 (.pick (.c v14) (.c v17) (.c (.bool false)))) fun v18=>bnd (gv v18 true (evP R12 (.fieldA 2 (cl l 1)))) fun v19=>bnd (gv v18 true (evP R12 (.load1 (.c v19)))) fun v20=>bnd (gv v18 true (evP R12 (.mv (cl l 12)))) fun v21=>bnd (gv v18 true (evP R12 (.mv (cl l 13)))) fun v22=>bnd (gv v18 true (evP R12 (.bin .add (.c v21) (.c v22)))) fun v23=>bnd (gv v18 true (evP R12 (.mv (cl l 14)))) fun v24=>bnd (gv v18 true (evP R12 (.bin .add (.c v23) (.c v24)))) fun v25=>CF F v18 true R12 L12 [v20,v25] [] (.func 61 []) fun v26 R26 L26=>bnd (evP R26 (.pick (.c v18) (.c v26) (.c (.bool false)))) fun v27=>Y0 F cx k r R26 L26 164 ([(154,v27),(153,v26),(152,v25),(151,v24),(150,v23),(149,v22),(148,v21),(147,v20),(146,v19),(145,v18),(144,v18),(143,v17),(142,v16),(141,v15),(140,v14),(139,v14),(138,v13),(137,v12),(136,v11),(135,v10),(134,v9),(133,v8),(132,v8),(131,v7),(130,v6),(129,v5),(128,v4),(127,v3),(126,v2),(125,v2),(124,q1.1),(123,lk l 13),(122,lk l 12),(121,v0)]++kp l Wm):=rg
@[simp] theorem uc15s11:U c15s11 (.seq c15k10 c15s9):=ur
@[simp] theorem uc15k12:X0 F cx k l rows low r 164 c15k12↔eb rows (.fieldA 2 (cl l 3)) fun v0=>eb rows (.load1 (.c v0)) fun v1=>Y0 F cx k r rows low 164 ([(15,v1),(120,v1),(119,v0)]++kp l P8):=rg
@[simp] theorem uc15s13:U c15s13 (.seq (.block 9 (.seq c15k12 c15s11)) c15k7):=ur
@[simp] theorem uc15s14:U c15s14 (.cond (.t 116) .skip (.exit 8)):=ur
@[simp] theorem uc15k15:X0 F cx k l rows low r 164 c15k15↔eb rows (.fieldA 0 (cl l 3)) fun v0=>eb rows (.load1 (.c v0)) fun v1=>eb rows (.bin .lss (cl l 14) (.c v1)) fun v2=>Y0 F cx k r rows low 164 ([(116,v2),(115,v1),(114,v0),(113,lk l 14)]++kp l P8):=rg
@[simp] theorem uc15s16:U c15s16 (.block 8 (.loop c15l6)):=ur
@[simp] theorem uc15k17:X0 F cx k l rows low r 164 c15k17↔eb rows (.bin .add (cl l 13) (ci 1)) fun v0=>Y0 F cx k r rows low 164 ([(14,v0),(112,v0),(111,lk l 13)]++kp l P9):=rg
@[simp] theorem uc15s18:U c15s18 (.seq (.block 7 (.seq c15k17 c15s16)) c15k5):=ur
@[simp] theorem uc15s19:U c15s19 (.cond (.t 108) .skip (.exit 6)):=ur
@[simp] theorem uc15k20:X0 F cx k l rows low r 164 c15k20↔eb rows (.fieldA 0 (cl l 3)) fun v0=>eb rows (.load1 (.c v0)) fun v1=>eb rows (.bin .lss (cl l 13) (.c v1)) fun v2=>Y0 F cx k r rows low 164 ([(108,v2),(107,v1),(106,v0),(105,lk l 13)]++kp l P9):=rg
@[simp] theorem uc15s21:U c15s21 (.block 6 (.loop c15l4)):=ur
@[simp] theorem uc15k22:X0 F cx k l rows low r 164 c15k22↔eb rows (.bin .add (cl l 12) (ci 1)) fun v0=>Y0 F cx k r rows low 164 ([(13,v0),(104,v0),(103,lk l 12)]++kp l Qn):=rg
@[simp] theorem uc15s23:U c15s23 (.seq (.block 5 (.seq c15k22 c15s21)) c15k3):=ur
@[simp] theorem uc15s24:U c15s24 (.cond (.t 100) .skip (.exit 4)):=ur
@[simp] theorem uc15k25:X0 F cx k l rows low r 164 c15k25↔eb rows (.fieldA 0 (cl l 3)) fun v0=>eb rows (.load1 (.c v0)) fun v1=>eb rows (.bin .lss (cl l 12) (.c v1)) fun v2=>Y0 F cx k r rows low 164 ([(100,v2),(99,v1),(98,v0),(97,lk l 12)]++kp l Qn):=rg
@[simp] theorem uc15s26:U c15s26 (.block 4 (.loop c15l2)):=ur
@[simp] theorem uc15k27:X0 F cx k l rows low r 164 c15k27↔Y0 F cx k r rows low 164 ([(12,(.int .i64 0))]++kp l FM):=rg
@[simp] theorem uc15s28:U c15s28 (.seq (.seq c15k27 c15s26) c15s1):=ur
@[simp] theorem uc15k30:X0 F cx k l rows low r 164 c15k30↔eb rows (.bin .add (cl l 10) (ci 1)) fun v0=>Y0 F cx k r rows low 164 ([(10,v0),(82,v0),(81,lk l 10)]++kp l Qm):=rg
@[simp] theorem uc15k31:X0 F cx k l rows low r 164 c15k31↔eb rows (.bin .quo (cl l 10) (ci 6)) fun v0=>eb rows (.bin .rem (cl l 10) (ci 6)) fun v1=>eb rows (.mkagg [.int .i64 0,.int .i64 0] [(0,1,(.c v0)),(1,1,(.c v1))]) fun v2=>bnd (evE rows low (.mkslice 1 [.int .i64 0,.int .i64 0] [(0,2,(.c v2))])) fun q3=>bnd (evE q3.2.1 q3.2.2 (.app 2 16 (cl l 11) (.c q3.1))) fun q4=>bnd (evP q4.2.1 (.fieldA 1 (cl l 3))) fun v5=>bnd (evE q4.2.1 q4.2.2 (.store1 (.c v5) (.c q4.1))) fun q6=>Y0 F cx k r q6.2.1 q6.2.2 164 ([(96,v5),(95,q4.1),(94,q3.1),(93,v2),(92,v1),(91,lk l 10),(90,v0),(89,lk l 10),(88,lk l 11)]++kp l WI):=rg
@[simp] theorem uc15s32:U c15s32 (.cond (.t 87) c15k31 .skip):=ur
@[simp] theorem uc15k33:X0 F cx k l rows low r 164 c15k33↔eb rows (.idxA 36 1 (cl l 4) (cl l 10)) fun v0=>eb rows (.load1 (.c v0)) fun v1=>Y0 F cx k r rows low 164 ([(87,v1),(86,v0),(85,lk l 10)]++kp l WI):=rg
@[simp] theorem uc15s34:U c15s34 (.seq c15k33 c15s32):=ur
@[simp] theorem uc15k35:X0 F cx k l rows low r 164 c15k35↔eb rows (.fieldA 1 (cl l 3)) fun v0=>eb rows (.load1 (.c v0)) fun v1=>Y0 F cx k r rows low 164 ([(11,v1),(84,v1),(83,v0)]++kp l Qm):=rg
@[simp] theorem uc15s36:U c15s36 (.seq (.block 3 (.seq c15k35 c15s34)) c15k30):=ur
@[simp] theorem uc15s37:U c15s37 (.cond (.t 80) .skip (.exit 2)):=ur
@[simp] theorem uc15k38:X0 F cx k l rows low r 164 c15k38↔eb rows (.bin .lss (cl l 10) (ci 36)) fun v0=>Y0 F cx k r rows low 164 ([(80,v0),(79,lk l 10)]++kp l Qm):=rg
@[simp] theorem uc15s39:U c15s39 (.block 2 (.loop c15l29)):=ur
@[simp] theorem uc15k40:X0 F cx k l rows low r 164 c15k40↔Y0 F cx k r rows low 164 ([(10,(.int .i64 0))]++kp l OM):=rg
@[simp] theorem uc15s41:U c15s41 (.seq (.seq c15k40 c15s39) c15s28):=ur
@[simp] theorem uc15k43:X0 F cx k l rows low r 164 c15k43↔eb rows (.bin .add (cl l 6) (ci 1)) fun v0=>Y0 F cx k r rows low 164 ([(6,v0),(33,v0),(32,lk l 6)]++kp l Mz):=rg
@[simp] theorem uc15k44:X0 F cx k l rows low r 164 c15k44↔eb rows (.bin .add (cl l 5) (ci 1)) fun v0=>Y0 F cx k r rows low 164 ([(5,v0),(78,v0),(77,lk l 5)]++kp l Mz):=rg
@[simp] theorem uc15k45:X0 F cx k l rows low r 164 c15k45↔eb rows (.idxA 36 1 (cl l 4) (cl l 9)) fun v0=>bnd (evE rows low (.store1 (.c v0) (.c (.bool true)))) fun q1=>Y0 F cx k r q1.2.1 q1.2.2 164 ([(76,v0),(75,lk l 9)]++kp l AbF):=rg
@[simp] theorem uc15s46:U c15s46 (.cond (.t 74) (.seq c15k45 c15k44) .skip):=ur
@[simp] theorem uc15k47:X0 F cx k l rows low r 164 c15k47↔eb rows (.bin .neq (cl l 7) (cl l 8)) fun v0=>bnd (gv v0 true (evP rows (.mv (cl l 9)))) fun v1=>bnd (gv v0 true (evP rows (.idxA 36 1 (cl l 4) (.c v1)))) fun v2=>bnd (gv v0 true (evP rows (.load1 (.c v2)))) fun v3=>bnd (gv v0 true (evP rows (.un .not (.c v3)))) fun v4=>eb rows (.pick (.c v0) (.c v4) (.c (.bool false))) fun v5=>Y0 F cx k r rows low 164 ([(74,v5),(73,v4),(72,v3),(71,v2),(70,v1),(69,v0),(68,v0),(67,lk l 8),(66,lk l 7)]++kp l AaV):=rg
@[simp] theorem uc15s48:U c15s48 (.seq c15k47 c15s46):=ur
@[simp] theorem uc15k49:X0 F cx k l rows low r 164 c15k49↔eb rows (.mn [(cl l 7),(cl l 8)]) fun v0=>eb rows (.bin .mul (.c v0) (ci 6)) fun v1=>eb rows (.mx [(cl l 7),(cl l 8)]) fun v2=>eb rows (.bin .add (.c v1) (.c v2)) fun v3=>Y0 F cx k r rows low 164 ([(9,v3),(65,v3),(64,v2),(63,lk l 8),(62,lk l 7),(61,v1),(60,v0),(59,lk l 8),(58,lk l 7)]++kp l AaN):=rg
@[simp] theorem uc15s50:U c15s50 (.seq c15k49 c15s48):=ur
@[simp] theorem uc15k51:X0 F cx k l rows low r 164 c15k51↔eb rows (.fieldA 1 (cl l 1)) fun v0=>eb rows (.load1 (.c v0)) fun v1=>eb rows (.idxS 2 (.c v1) (cl l 6)) fun v2=>eb rows (.idxA 2 1 (.c v2) (ci 0)) fun v3=>eb rows (.load1 (.c v3)) fun v4=>eb rows (.conv .u64 (.c v4)) fun v5=>eb rows (.fieldA 0 (cl l 3)) fun v6=>eb rows (.load1 (.c v6)) fun v7=>eb rows (.conv .u64 (.c v7)) fun v8=>eb rows (.bin .rem (.c v5) (.c v8)) fun v9=>eb rows (.conv .i64 (.c v9)) fun v10=>eb rows (.fieldA 1 (cl l 1)) fun v11=>eb rows (.load1 (.c v11)) fun v12=>eb rows (.idxS 2 (.c v12) (cl l 6)) fun v13=>eb rows (.idxA 2 1 (.c v13) (ci 1)) fun v14=>eb rows (.load1 (.c v14)) fun v15=>eb rows (.conv .u64 (.c v15)) fun v16=>eb rows (.fieldA 0 (cl l 3)) fun v17=>eb rows (.load1 (.c v17)) fun v18=>eb rows (.conv .u64 (.c v18)) fun v19=>eb rows (.bin .rem (.c v16) (.c v19)) fun v20=>eb rows (.conv .i64 (.c v20)) fun v21=>Y0 F cx k r rows low 164 ([(8,v21),(7,v10),(57,v21),(56,v20),(55,v19),(54,v18),(53,v17),(52,v16),(51,v15),(50,v14),(49,v13),(48,lk l 6),(47,v12),(46,v11),(45,v10),(44,v9),(43,v8),(42,v7),(41,v6),(40,v5),(39,v4),(38,v3),(37,v2),(36,lk l 6),(35,v1),(34,v0)]++kp l Mz):=rg
@[simp] theorem uc15s52:U c15s52 (.seq (.block 1 (.seq c15k51 c15s50)) c15k43):=ur
@[simp] theorem uc15s53:U c15s53 (.cond (.t 31) .skip (.exit 0)):=ur
@[simp] theorem uc15k54:X0 F cx k l rows low r 164 c15k54↔eb rows (.fieldA 1 (cl l 1)) fun v0=>eb rows (.load1 (.c v0)) fun v1=>eb rows (.len 0 (.c v1)) fun v2=>eb rows (.bin .lss (cl l 6) (.c v2)) fun v3=>bnd (gv v3 true (evP rows (.mv (cl l 5)))) fun v4=>bnd (gv v3 true (evP rows (.bin .lss (.c v4) (ci 10)))) fun v5=>eb rows (.pick (.c v3) (.c v5) (.c (.bool false))) fun v6=>Y0 F cx k r rows low 164 ([(31,v6),(30,v5),(29,v4),(28,v3),(27,v3),(26,v2),(25,v1),(24,v0),(23,lk l 6)]++kp l Mz):=rg
@[simp] theorem uc15s55:U c15s55 (.block 0 (.loop c15l42)):=ur
@[simp] theorem uc15k56:X0 F cx k l rows low r 164 c15k56↔Y0 F cx k r rows low 164 ([(6,(.int .i64 0))]++kp l AaY):=rg
@[simp] theorem uc15s57:U c15s57 (.seq (.seq c15k56 c15s55) c15s41):=ur
@[simp] theorem uc15k58:X0 F cx k l rows low r 164 c15k58↔Y0 F cx k r rows low 164 ([(5,(.int .i64 0))]++kp l OM):=rg
@[simp] theorem uc15s59:U c15s59 (.seq c15k58 c15s57):=ur
@[simp] theorem uc15k60:X0 F cx k l rows low r 164 c15k60↔bnd (evE rows low (.box (.c (.agg (List.replicate 36 (.bool false)))))) fun q0=>Y0 F cx k r q0.2.1 q0.2.2 164 ([(4,q0.1)]++kp l FM):=rg
@[simp] theorem uc15s61:U c15s61 (.seq c15k60 c15s59):=ur
@[simp] theorem uc15k62:X0 F cx k l rows low r 164 c15k62↔eb rows (.fieldA 0 (cl l 1)) fun v0=>eb rows (.load1 (.c v0)) fun v1=>eb rows (.conv .u64 (.c v1)) fun v2=>eb rows (.bin .rem (.c v2) (.c (.int .u64 6))) fun v3=>eb rows (.conv .i64 (.c v3)) fun v4=>eb rows (.bin .add (ci 1) (.c v4)) fun v5=>eb rows (.mkagg [.int .i64 0,.nilslice,.nilslice] [(0,1,(.c v5))]) fun v6=>bnd (evE rows low (.box (.c (.agg [.int .i64 0,.nilslice,.nilslice])))) fun q7=>bnd (evE q7.2.1 q7.2.2 (.storeN 3 (.c q7.1) (.c v6))) fun q8=>Y0 F cx k r q8.2.1 q8.2.2 164 [(3,q7.1),(22,v6),(21,v5),(20,v4),(19,v3),(18,v2),(17,v1),(16,v0),(1,lk l 1),(2,lk l 2)]:=rg
@[simp] theorem uc15s63:U c15s63 (.seq c15k62 c15s61):=ur
@[simp] theorem uc15k64:X0 F cx k l rows low r 164 c15k64↔bnd (evE rows low (.box (cl l 0))) fun q0=>bnd (evE q0.2.1 q0.2.2 (.box (.c (.agg [.int .i64 0,.nilslice,.nilslice])))) fun q1=>Y0 F cx k r q1.2.1 q1.2.2 164 [(2,q1.1),(1,q0.1),(0,lk l 0)]:=rg
@[simp] abbrev Kc15l2:List Itm:=.inLoop c15l2::.inBlock 4::.code c15s1::[]
@[simp] abbrev Kc15l4:List Itm:=.inLoop c15l4::.inBlock 6::.inBlock 5::.code c15k3::Kc15l2
@[simp] abbrev Kc15l6:List Itm:=.inLoop c15l6::.inBlock 8::.inBlock 7::.code c15k5::Kc15l4
def Lc15l6(F:Nat->Option IFn)(cx:Ctx)(x1 x2 x3 x12 x13 x14:AV)(rows:List Row)(low:Nat)(r:AV×List Row×Nat->Prop):Prop:=Ex F cx (.code c15l6::Kc15l6) ⟨mk 164 [(1,x1),(2,x2),(3,x3),(12,x12),(13,x13),(14,x14)],rows,low⟩ r
@[simp] theorem nc15l6:Ex F cx (Kc15l6) ⟨mk 164 l,rows,low⟩ r↔Lc15l6 F cx (lk l 1) (lk l 2) (lk l 3) (lk l 12) (lk l 13) (lk l 14) rows low r:=AA (keep:=P8) (by kernel_rfl)
@[simp] theorem uc15l6:U c15l6 (.seq (.seq c15k15 c15s14) c15s13):=ur
def Lc15l4(F:Nat->Option IFn)(cx:Ctx)(x1 x2 x3 x12 x13:AV)(rows:List Row)(low:Nat)(r:AV×List Row×Nat->Prop):Prop:=Ex F cx (.code c15l4::Kc15l4) ⟨mk 164 [(1,x1),(2,x2),(3,x3),(12,x12),(13,x13)],rows,low⟩ r
@[simp] theorem nc15l4:Ex F cx (Kc15l4) ⟨mk 164 l,rows,low⟩ r↔Lc15l4 F cx (lk l 1) (lk l 2) (lk l 3) (lk l 12) (lk l 13) rows low r:=AA (keep:=P9) (by kernel_rfl)
@[simp] theorem uc15l4:U c15l4 (.seq (.seq c15k20 c15s19) c15s18):=ur
def Lc15l2(F:Nat->Option IFn)(cx:Ctx)(x1 x2 x3 x12:AV)(rows:List Row)(low:Nat)(r:AV×List Row×Nat->Prop):Prop:=Ex F cx (.code c15l2::Kc15l2) ⟨mk 164 [(1,x1),(2,x2),(3,x3),(12,x12)],rows,low⟩ r
@[simp] theorem nc15l2:Ex F cx (Kc15l2) ⟨mk 164 l,rows,low⟩ r↔Lc15l2 F cx (lk l 1) (lk l 2) (lk l 3) (lk l 12) rows low r:=AA (keep:=Qn) (by kernel_rfl)
@[simp] theorem uc15l2:U c15l2 (.seq (.seq c15k25 c15s24) c15s23):=ur
@[simp] abbrev Kc15l29:List Itm:=.inLoop c15l29::.inBlock 2::.code c15s28::[]
def Lc15l29(F:Nat->Option IFn)(cx:Ctx)(x1 x2 x3 x4 x10:AV)(rows:List Row)(low:Nat)(r:AV×List Row×Nat->Prop):Prop:=Ex F cx (.code c15l29::Kc15l29) ⟨mk 164 [(1,x1),(2,x2),(3,x3),(4,x4),(10,x10)],rows,low⟩ r
@[simp] theorem nc15l29:Ex F cx (Kc15l29) ⟨mk 164 l,rows,low⟩ r↔Lc15l29 F cx (lk l 1) (lk l 2) (lk l 3) (lk l 4) (lk l 10) rows low r:=AA (keep:=Qm) (by kernel_rfl)
@[simp] theorem uc15l29:U c15l29 (.seq (.seq c15k38 c15s37) c15s36):=ur
@[simp] abbrev Kc15l42:List Itm:=.inLoop c15l42::.inBlock 0::.code c15s41::[]
def Lc15l42(F:Nat->Option IFn)(cx:Ctx)(x1 x2 x3 x4 x5 x6:AV)(rows:List Row)(low:Nat)(r:AV×List Row×Nat->Prop):Prop:=Ex F cx (.code c15l42::Kc15l42) ⟨mk 164 [(1,x1),(2,x2),(3,x3),(4,x4),(5,x5),(6,x6)],rows,low⟩ r
@[simp] theorem nc15l42:Ex F cx (Kc15l42) ⟨mk 164 l,rows,low⟩ r↔Lc15l42 F cx (lk l 1) (lk l 2) (lk l 3) (lk l 4) (lk l 5) (lk l 6) rows low r:=AA (keep:=Mz) (by kernel_rfl)
@[simp] theorem uc15l42:U c15l42 (.seq (.seq c15k54 c15s53) c15s52):=ur
@[simp] theorem uc15b:U c15b (.seq c15k64 c15s63):=ur
theorem i15{x0:AV}(hF:F 15=some c15){q:AV×List Row×Option Nat}(h:Ex F (.fn [.cellN 2 3]) [.code c15b] ⟨mk 164 [(0,x0)],rows,rows.length⟩ fun r=>fin rows r.1 r.2.1 r.2.2=q):Ret F 15 [x0] rows=some q:=Av hF h
@[simp] theorem uc17k0:X0 F cx k l rows low r 16 c17k0↔em 0 rows (.fieldA 0 (cl l 1)) fun v0=>em 1 rows (.load1 (.c v0)) fun v1=>em 0 rows (.fieldA 1 (cl l 1)) fun v2=>em 8 rows (.load1 (.c v2)) fun v3=>bnd (evE (rows++Ai 28 rn) (rows.length+rn.length) (.app 2 16 (cl l 3) (.c v3))) fun q4=>q4.2.2=rows.length+rn.length/\bnd (some (rn++List.map (fun(x:Row)=>(5,x)) (q4.2.1.drop (rows.length+rn.length)))) fun e4=>bnd (evP (rows++Ai 0 e4) (.fieldA 2 (cl l 1))) fun v5=>bnd (evP (rows++Ai 128 e4) (.load1 (.c v5))) fun v6=>bnd (evE (rows++Ai 508 e4) (rows.length+e4.length) (.app 3 24 (cl l 4) (.c v6))) fun q7=>q7.2.2=rows.length+e4.length/\bnd (some (e4++List.map (fun(x:Row)=>(9,x)) (q7.2.1.drop (rows.length+e4.length)))) fun e7=>bnd (evP (rows++List.map (fun(x:Nat×Row)=>x.2) e7) (.mkagg [.int .i64 0,.nilslice,.nilslice] [(0,1,(.c v1)),(1,1,(.c q4.1)),(2,1,(.c q7.1))])) fun v8=>bnd (evE (rows++List.map (fun(x:Nat×Row)=>x.2) e7) low (.storeN 3 (cl l 2) (.c v8))) fun q9=>Y0 F cx k r q9.2.1 q9.2.2 16 ([(15,v8),(14,q7.1),(13,v6),(12,v5),(11,lk l 4),(10,q4.1),(9,v3),(8,v2),(7,lk l 3),(6,v1),(5,v0)]++kp l OM):=rg
@[simp] theorem uc17s1:U c17s1 (.seq c17k0 .ret):=ur
@[simp] theorem uc17k2:X0 F cx k l rows low r 16 c17k2↔Y0 F cx k r rows low 16 ([(4,.nilslice)]++kp l FM):=rg
@[simp] theorem uc17s3:U c17s3 (.seq c17k2 c17s1):=ur
@[simp] theorem uc17k4:X0 F cx k l rows low r 16 c17k4↔Y0 F cx k r rows low 16 [(3,.nilslice),(1,lk l 1),(2,lk l 2)]:=rg
@[simp] theorem uc17s5:U c17s5 (.seq c17k4 c17s3):=ur
@[simp] theorem uc17k6:X0 F cx k l rows low r 16 c17k6↔bnd (evE rows low (.box (cl l 0))) fun q0=>bnd (evE q0.2.1 q0.2.2 (.box (.c (.agg [.int .i64 0,.nilslice,.nilslice])))) fun q1=>Y0 F cx k r q1.2.1 q1.2.2 16 [(2,q1.1),(1,q0.1),(0,lk l 0)]:=rg
@[simp] theorem uc17b:U c17b (.seq c17k6 c17s5):=ur
theorem i17{x0:AV}(hF:F 17=some c17){q:AV×List Row×Option Nat}(h:Ex F (.fn [.cellN 2 3]) [.code c17b] ⟨mk 16 [(0,x0)],rows,rows.length⟩ fun r=>fin rows r.1 r.2.1 r.2.2=q):Ret F 17 [x0] rows=some q:=Av hF h
@[simp] theorem uc20k0:X0 F cx k l rows low r 30 c20k0↔Y0 F cx k r rows low 30 [(4,lk l 5),(29,lk l 5),(5,lk l 5)]:=rg
@[simp] theorem uc20s1:U c20s1 (.seq c20k0 .ret):=ur
@[simp] theorem uc20k3:X0 F cx k l rows low r 30 c20k3↔eb rows (.bin .add (cl l 6) (ci 1)) fun v0=>Y0 F cx k r rows low 30 ([(6,v0),(12,v0),(11,lk l 6)]++kp l EC):=rg
@[simp] theorem uc20k4:X0 F cx k l rows low r 30 c20k4↔bnd (evE rows low (.mkslice 1 [.int .i64 0] [(0,1,(cl l 7))])) fun q0=>bnd (evE q0.2.1 q0.2.2 (.app 1 8 (cl l 5) (.c q0.1))) fun q1=>Y0 F cx k r q1.2.1 q1.2.2 30 ([(5,q1.1),(28,q1.1),(27,q0.1),(26,lk l 7),(25,lk l 5)]++kp l qq9):=rg
@[simp] theorem uc20k5:X0 F cx k l rows low r 30 c20k5↔eb rows (.idxS 1 (cl l 0) (cl l 6)) fun v0=>eb rows (.load1 (.c v0)) fun v1=>eb rows (.conv .u64 (.c v1)) fun v2=>eb rows (.bin .rem (.c v2) (.c (.int .u64 201))) fun v3=>eb rows (.conv .i64 (.c v3)) fun v4=>eb rows (.bin .sub (.c v4) (ci 100)) fun v5=>Y0 F cx k r rows low 30 ([(7,v5),(24,v5),(23,v4),(22,v3),(21,v2),(20,v1),(19,v0),(18,lk l 6),(17,lk l 0)]++kp l EC):=rg
@[simp] theorem uc20s6:U c20s6 (.cond (.t 16) c20k5 .skip):=ur
@[simp] theorem uc20k7:X0 F cx k l rows low r 30 c20k7↔eb rows (.len 0 (cl l 0)) fun v0=>eb rows (.bin .lss (cl l 6) (.c v0)) fun v1=>Y0 F cx k r rows low 30 ([(16,v1),(15,v0),(14,lk l 0),(13,lk l 6)]++kp l qq9):=rg
@[simp] theorem uc20s8:U c20s8 (.seq (.seq c20k7 c20s6) c20k4):=ur
@[simp] theorem uc20k9:X0 F cx k l rows low r 30 c20k9↔Y0 F cx k r rows low 30 ([(7,(.int .i64 0))]++kp l EC):=rg
@[simp] theorem uc20s10:U c20s10 (.seq (.block 1 (.seq c20k9 c20s8)) c20k3):=ur
@[simp] theorem uc20s11:U c20s11 (.cond (.t 10) .skip (.exit 0)):=ur
@[simp] theorem uc20k12:X0 F cx k l rows low r 30 c20k12↔eb rows (.bin .lss (cl l 6) (cl l 1)) fun v0=>Y0 F cx k r rows low 30 ([(10,v0),(9,lk l 1),(8,lk l 6)]++kp l EC):=rg
@[simp] theorem uc20s13:U c20s13 (.block 0 (.loop c20l2)):=ur
@[simp] theorem uc20k14:X0 F cx k l rows low r 30 c20k14↔Y0 F cx k r rows low 30 ([(6,(.int .i64 0))]++kp l Cw):=rg
@[simp] theorem uc20s15:U c20s15 (.seq (.seq c20k14 c20s13) c20s1):=ur
@[simp] theorem uc20k16:X0 F cx k l rows low r 30 c20k16↔Y0 F cx k r rows low 30 [(5,.nilslice),(0,lk l 0),(1,lk l 1)]:=rg
@[simp] theorem uc20s17:U c20s17 (.seq c20k16 c20s15):=ur
@[simp] theorem uc20k18:X0 F cx k l rows low r 30 c20k18↔Y0 F cx k r rows low 30 [(4,.nilslice),(0,lk l 0),(1,lk l 1)]:=rg
@[simp] abbrev Kc20l2:List Itm:=.inLoop c20l2::.inBlock 0::.code c20s1::[]
def Lc20l2(F:Nat->Option IFn)(cx:Ctx)(x0 x1 x5 x6:AV)(rows:List Row)(low:Nat)(r:AV×List Row×Nat->Prop):Prop:=Ex F cx (.code c20l2::Kc20l2) ⟨mk 30 [(0,x0),(1,x1),(5,x5),(6,x6)],rows,low⟩ r
@[simp] theorem nc20l2:Ex F cx (Kc20l2) ⟨mk 30 l,rows,low⟩ r↔Lc20l2 F cx (lk l 0) (lk l 1) (lk l 5) (lk l 6) rows low r:=AA (keep:=EC) (by kernel_rfl)
@[simp] theorem uc20l2:U c20l2 (.seq (.seq c20k12 c20s11) c20s10):=ur
@[simp] theorem uc20b:U c20b (.seq c20k18 c20s17):=ur
theorem i20{x0 x1:AV}(hF:F 20=some c20){q:AV×List Row×Option Nat}(h:Ex F (.fn [.t 4]) [.code c20b] ⟨mk 30 [(0,x0),(1,x1)],rows,rows.length⟩ fun r=>fin rows r.1 r.2.1 r.2.2=q):Ret F 20 [x0,x1] rows=some q:=Av hF h
@[simp] theorem uc59k0:X0 F cx k l rows low r 133 c59k0↔Y0 F cx k r rows low 133 [(2,(.int .i64 0))]:=rg
@[simp] theorem uc59s1:U c59s1 (.seq c59k0 .ret):=ur
@[simp] theorem uc59k3:X0 F cx k l rows low r 133 c59k3↔eb rows (.bin .add (cl l 73) (ci 1)) fun v0=>Y0 F cx k r rows low 133 ([(73,v0),(132,v0)]++kp l F7):=rg
@[simp] theorem uc59k5:X0 F cx k l rows low r 133 c59k5↔eb rows (.bin .add (cl l 122) (ci 1)) fun v0=>Y0 F cx k r rows low 133 ([(122,v0),(131,v0)]++kp l Gu):=rg
@[simp] theorem uc59k6:X0 F cx k l rows low r 133 c59k6↔Y0 F cx k r rows low 133 [(2,(.int .i64 30))]:=rg
@[simp] theorem uc59s7:U c59s7 (.cond (.t 130) (.seq c59k6 .ret) .skip):=ur
@[simp] theorem uc59k8:X0 F cx k l rows low r 133 c59k8↔eb rows (.fieldA 1 (cl l 1)) fun v0=>eb rows (.load1 (.c v0)) fun v1=>eb rows (.loadN 2 (cl l 8)) fun v2=>bnd (Ret F 92 [v1,v2] rows) fun q3=>bnd (evP q3.2.1 (.un .not (.c q3.1))) fun v4=>Y0 F cx k r q3.2.1 (AC low q3.2.2) 133 ([(130,v4),(129,q3.1),(128,v2),(127,v1),(126,v0)]++kp l TC):=rg
@[simp] theorem uc59s9:U c59s9 (.seq c59k8 c59s7):=ur
@[simp] theorem uc59k10:X0 F cx k l rows low r 133 c59k10↔eb rows (.idxS 2 (cl l 120) (cl l 122)) fun v0=>eb rows (.loadN 2 (.c v0)) fun v1=>bnd (evE rows low (.box (.c (.agg [.int .i64 0,.int .i64 0])))) fun q2=>bnd (evE q2.2.1 q2.2.2 (.storeN 2 (.c q2.1) (.c v1))) fun q3=>Y0 F cx k r q3.2.1 q3.2.2 133 ([(8,q2.1),(125,v1),(124,v0)]++kp l Gu):=rg
@[simp] theorem uc59s11:U c59s11 (.seq (.block 5 (.seq c59k10 c59s9)) c59k5):=ur
@[simp] theorem uc59s12:U c59s12 (.seq (.cond (.t 123) .skip (.exit 4)) c59s11):=ur
@[simp] theorem uc59k13:X0 F cx k l rows low r 133 c59k13↔eb rows (.bin .lss (cl l 122) (cl l 121)) fun v0=>Y0 F cx k r rows low 133 ([(123,v0)]++kp l Gu):=rg
@[simp] theorem uc59s14:U c59s14 (.block 4 (.loop c59l4)):=ur
@[simp] theorem uc59k15:X0 F cx k l rows low r 133 c59k15↔eb rows (.idxA 3 1 (cl l 6) (ci 0)) fun v0=>eb rows (.load1 (.c v0)) fun v1=>eb rows (.idxA 3 1 (cl l 6) (ci 1)) fun v2=>eb rows (.load1 (.c v2)) fun v3=>eb rows (.mkagg [.int .i64 0,.int .i64 0] [(0,1,(.c v1)),(1,1,(.c v3))]) fun v4=>eb rows (.idxA 3 1 (cl l 6) (ci 0)) fun v5=>eb rows (.load1 (.c v5)) fun v6=>eb rows (.idxA 3 1 (cl l 6) (ci 2)) fun v7=>eb rows (.load1 (.c v7)) fun v8=>eb rows (.mkagg [.int .i64 0,.int .i64 0] [(0,1,(.c v6)),(1,1,(.c v8))]) fun v9=>eb rows (.idxA 3 1 (cl l 6) (ci 1)) fun v10=>eb rows (.load1 (.c v10)) fun v11=>eb rows (.idxA 3 1 (cl l 6) (ci 2)) fun v12=>eb rows (.load1 (.c v12)) fun v13=>eb rows (.mkagg [.int .i64 0,.int .i64 0] [(0,1,(.c v11)),(1,1,(.c v13))]) fun v14=>bnd (evE rows low (.mkslice 3 [.int .i64 0,.int .i64 0,.int .i64 0,.int .i64 0,.int .i64 0,.int .i64 0] [(0,2,(.c v4)),(2,2,(.c v9)),(4,2,(.c v14))])) fun q15=>bnd (evP q15.2.1 (.len 0 (.c q15.1))) fun v16=>Y0 F cx k r q15.2.1 q15.2.2 133 ([(122,(.int .i64 0)),(121,v16),(120,q15.1),(119,v14),(118,v13),(117,v12),(116,v11),(115,v10),(114,v9),(113,v8),(112,v7),(111,v6),(110,v5),(109,v4),(108,v3),(107,v2),(106,v1),(105,v0)]++kp l R8):=rg
@[simp] theorem uc59s16:U c59s16 (.seq c59k15 c59s14):=ur
@[simp] theorem uc59k17:X0 F cx k l rows low r 133 c59k17↔Y0 F cx k r rows low 133 [(2,(.int .i64 30))]:=rg
@[simp] theorem uc59s18:U c59s18 (.cond (.t 104) (.seq c59k17 .ret) .skip):=ur
@[simp] theorem uc59k19:X0 F cx k l rows low r 133 c59k19↔eb rows (.idxA 3 1 (cl l 6) (ci 0)) fun v0=>eb rows (.load1 (.c v0)) fun v1=>eb rows (.idxA 3 1 (cl l 6) (ci 1)) fun v2=>eb rows (.load1 (.c v2)) fun v3=>eb rows (.bin .geq (.c v1) (.c v3)) fun v4=>bnd (gv v4 false (evP rows (.idxA 3 1 (cl l 6) (ci 1)))) fun v5=>bnd (gv v4 false (evP rows (.load1 (.c v5)))) fun v6=>bnd (gv v4 false (evP rows (.idxA 3 1 (cl l 6) (ci 2)))) fun v7=>bnd (gv v4 false (evP rows (.load1 (.c v7)))) fun v8=>bnd (gv v4 false (evP rows (.bin .geq (.c v6) (.c v8)))) fun v9=>eb rows (.pick (.c v4) (.c (.bool true)) (.c v9)) fun v10=>bnd (gv v10 false (evP rows (.mv (cl l 5)))) fun v11=>bnd (gv v10 false (evP rows (.bin .gtr (.c v11) (ci 0)))) fun v12=>bnd (gv v10 false (evP rows (.mv (.c v12)))) fun v13=>bnd (gv v13 true (evP rows (.fieldA 2 (cl l 1)))) fun v14=>bnd (gv v13 true (evP rows (.load1 (.c v14)))) fun v15=>bnd (gv v13 true (evP rows (.mv (cl l 5)))) fun v16=>bnd (gv v13 true (evP rows (.bin .sub (.c v16) (ci 1)))) fun v17=>bnd (gv v13 true (evP rows (.idxS 3 (.c v15) (.c v17)))) fun v18=>bnd (gv v13 true (evP rows (.sliceA 3 1 (.c v18) none none none))) fun v19=>bnd (gv v13 true (evP rows (.sliceA 3 1 (cl l 6) none none none))) fun v20=>CF F v13 true rows low [v19,v20] [] (.func 91 []) fun v21 R21 L21=>bnd (gv v13 true (evP R21 (.bin .geq (.c v21) (ci 0)))) fun v22=>bnd (gv v10 false (evP R21 (.pick (.c v13) (.c v22) (.c (.bool false))))) fun v23=>bnd (evP R21 (.pick (.c v10) (.c (.bool true)) (.c v23))) fun v24=>Y0 F cx k r R21 L21 133 ([(104,v24),(103,v23),(102,v22),(101,v21),(100,v20),(99,v19),(98,v18),(97,v17),(96,v16),(95,v15),(94,v14),(93,v13),(92,v12),(91,v11),(90,v10),(89,v10),(88,v9),(87,v8),(86,v7),(85,v6),(84,v5),(83,v4),(82,v4),(81,v3),(80,v2),(79,v1),(78,v0)]++kp l VK):=rg
@[simp] theorem uc59s20:U c59s20 (.seq (.seq c59k19 c59s18) c59s16):=ur
@[simp] theorem uc59k21:X0 F cx k l rows low r 133 c59k21↔eb rows (.idxS 3 (cl l 71) (cl l 73)) fun v0=>eb rows (.loadN 3 (.c v0)) fun v1=>bnd (evE rows low (.box (.c (.agg [.int .i64 0,.int .i64 0,.int .i64 0])))) fun q2=>bnd (evE q2.2.1 q2.2.2 (.storeN 3 (.c q2.1) (.c v1))) fun q3=>Y0 F cx k r q3.2.1 q3.2.2 133 ([(5,lk l 73),(6,q2.1),(77,v1),(76,v0),(75,lk l 73)]++kp l F7):=rg
@[simp] theorem uc59s22:U c59s22 (.seq (.block 3 (.seq c59k21 c59s20)) c59k3):=ur
@[simp] theorem uc59s23:U c59s23 (.seq (.cond (.t 74) .skip (.exit 2)) c59s22):=ur
@[simp] theorem uc59k24:X0 F cx k l rows low r 133 c59k24↔eb rows (.bin .lss (cl l 73) (cl l 72)) fun v0=>Y0 F cx k r rows low 133 ([(74,v0)]++kp l F7):=rg
@[simp] theorem uc59s25:U c59s25 (.block 2 (.loop c59l2)):=ur
@[simp] theorem uc59k26:X0 F cx k l rows low r 133 c59k26↔eb rows (.fieldA 2 (cl l 1)) fun v0=>eb rows (.load1 (.c v0)) fun v1=>eb rows (.len 0 (.c v1)) fun v2=>Y0 F cx k r rows low 133 [(73,(.int .i64 0)),(72,v2),(71,v1),(70,v0),(1,lk l 1)]:=rg
@[simp] theorem uc59s27:U c59s27 (.seq (.seq c59k26 c59s25) c59s1):=ur
@[simp] theorem uc59k29:X0 F cx k l rows low r 133 c59k29↔eb rows (.bin .add (cl l 32) (ci 1)) fun v0=>Y0 F cx k r rows low 133 ([(32,v0),(69,v0)]++kp l Gd):=rg
@[simp] theorem uc59k30:X0 F cx k l rows low r 133 c59k30↔Y0 F cx k r rows low 133 [(2,(.int .i64 30))]:=rg
@[simp] theorem uc59s31:U c59s31 (.cond (.t 68) (.seq c59k30 .ret) .skip):=ur
@[simp] theorem uc59k32:X0 F cx k l rows low r 133 c59k32↔eb rows (.idxA 2 1 (cl l 4) (ci 0)) fun v0=>eb rows (.load1 (.c v0)) fun v1=>eb rows (.bin .lss (.c v1) (ci 0)) fun v2=>bnd (gv v2 false (evP rows (.idxA 2 1 (cl l 4) (ci 0)))) fun v3=>bnd (gv v2 false (evP rows (.load1 (.c v3)))) fun v4=>bnd (gv v2 false (evP rows (.idxA 2 1 (cl l 4) (ci 1)))) fun v5=>bnd (gv v2 false (evP rows (.load1 (.c v5)))) fun v6=>bnd (gv v2 false (evP rows (.bin .geq (.c v4) (.c v6)))) fun v7=>eb rows (.pick (.c v2) (.c (.bool true)) (.c v7)) fun v8=>bnd (gv v8 false (evP rows (.idxA 2 1 (cl l 4) (ci 1)))) fun v9=>bnd (gv v8 false (evP rows (.load1 (.c v9)))) fun v10=>bnd (gv v8 false (evP rows (.fieldA 0 (cl l 1)))) fun v11=>bnd (gv v8 false (evP rows (.load1 (.c v11)))) fun v12=>bnd (gv v8 false (evP rows (.bin .geq (.c v10) (.c v12)))) fun v13=>eb rows (.pick (.c v8) (.c (.bool true)) (.c v13)) fun v14=>bnd (gv v14 false (evP rows (.mv (cl l 3)))) fun v15=>bnd (gv v14 false (evP rows (.bin .gtr (.c v15) (ci 0)))) fun v16=>bnd (gv v14 false (evP rows (.mv (.c v16)))) fun v17=>bnd (gv v17 true (evP rows (.fieldA 1 (cl l 1)))) fun v18=>bnd (gv v17 true (evP rows (.load1 (.c v18)))) fun v19=>bnd (gv v17 true (evP rows (.mv (cl l 3)))) fun v20=>bnd (gv v17 true (evP rows (.bin .sub (.c v20) (ci 1)))) fun v21=>bnd (gv v17 true (evP rows (.idxS 2 (.c v19) (.c v21)))) fun v22=>bnd (gv v17 true (evP rows (.sliceA 2 1 (.c v22) none none none))) fun v23=>bnd (gv v17 true (evP rows (.sliceA 2 1 (cl l 4) none none none))) fun v24=>CF F v17 true rows low [v23,v24] [] (.func 91 []) fun v25 R25 L25=>bnd (gv v17 true (evP R25 (.bin .geq (.c v25) (ci 0)))) fun v26=>bnd (gv v14 false (evP R25 (.pick (.c v17) (.c v26) (.c (.bool false))))) fun v27=>bnd (evP R25 (.pick (.c v14) (.c (.bool true)) (.c v27))) fun v28=>Y0 F cx k r R25 L25 133 ([(68,v28),(67,v27),(66,v26),(65,v25),(64,v24),(63,v23),(62,v22),(61,v21),(60,v20),(59,v19),(58,v18),(57,v17),(56,v16),(55,v15),(54,v14),(53,v14),(52,v13),(51,v12),(50,v11),(49,v10),(48,v9),(47,v8),(46,v8),(45,v7),(44,v6),(43,v5),(42,v4),(41,v3),(40,v2),(39,v2),(38,v1),(37,v0)]++kp l U7):=rg
@[simp] theorem uc59s33:U c59s33 (.seq c59k32 c59s31):=ur
@[simp] theorem uc59k34:X0 F cx k l rows low r 133 c59k34↔eb rows (.idxS 2 (cl l 30) (cl l 32)) fun v0=>eb rows (.loadN 2 (.c v0)) fun v1=>bnd (evE rows low (.box (.c (.agg [.int .i64 0,.int .i64 0])))) fun q2=>bnd (evE q2.2.1 q2.2.2 (.storeN 2 (.c q2.1) (.c v1))) fun q3=>Y0 F cx k r q3.2.1 q3.2.2 133 ([(3,lk l 32),(4,q2.1),(36,v1),(35,v0),(34,lk l 32)]++kp l Gd):=rg
@[simp] theorem uc59s35:U c59s35 (.seq (.block 1 (.seq c59k34 c59s33)) c59k29):=ur
@[simp] theorem uc59s36:U c59s36 (.seq (.cond (.t 33) .skip (.exit 0)) c59s35):=ur
@[simp] theorem uc59k37:X0 F cx k l rows low r 133 c59k37↔eb rows (.bin .lss (cl l 32) (cl l 31)) fun v0=>Y0 F cx k r rows low 133 ([(33,v0)]++kp l Gd):=rg
@[simp] theorem uc59s38:U c59s38 (.block 0 (.loop c59l28)):=ur
@[simp] theorem uc59k39:X0 F cx k l rows low r 133 c59k39↔eb rows (.fieldA 1 (cl l 1)) fun v0=>eb rows (.load1 (.c v0)) fun v1=>eb rows (.len 0 (.c v1)) fun v2=>Y0 F cx k r rows low 133 [(32,(.int .i64 0)),(31,v2),(30,v1),(29,v0),(1,lk l 1)]:=rg
@[simp] theorem uc59s40:U c59s40 (.seq (.seq c59k39 c59s38) c59s27):=ur
@[simp] theorem uc59k41:X0 F cx k l rows low r 133 c59k41↔Y0 F cx k r rows low 133 [(2,(.int .i64 30))]:=rg
@[simp] theorem uc59s42:U c59s42 (.cond (.t 28) (.seq c59k41 .ret) .skip):=ur
@[simp] theorem uc59k43:X0 F cx k l rows low r 133 c59k43↔eb rows (.fieldA 0 (cl l 1)) fun v0=>eb rows (.load1 (.c v0)) fun v1=>eb rows (.bin .lss (.c v1) (ci 1)) fun v2=>bnd (gv v2 false (evP rows (.fieldA 0 (cl l 1)))) fun v3=>bnd (gv v2 false (evP rows (.load1 (.c v3)))) fun v4=>bnd (gv v2 false (evP rows (.bin .gtr (.c v4) (ci 6)))) fun v5=>eb rows (.pick (.c v2) (.c (.bool true)) (.c v5)) fun v6=>bnd (gv v6 false (evP rows (.fieldA 1 (cl l 1)))) fun v7=>bnd (gv v6 false (evP rows (.load1 (.c v7)))) fun v8=>bnd (gv v6 false (evP rows (.len 0 (.c v8)))) fun v9=>bnd (gv v6 false (evP rows (.bin .gtr (.c v9) (ci 10)))) fun v10=>eb rows (.pick (.c v6) (.c (.bool true)) (.c v10)) fun v11=>bnd (gv v11 false (evP rows (.fieldA 2 (cl l 1)))) fun v12=>bnd (gv v11 false (evP rows (.load1 (.c v12)))) fun v13=>bnd (gv v11 false (evP rows (.len 0 (.c v13)))) fun v14=>bnd (gv v11 false (evP rows (.bin .gtr (.c v14) (ci 6)))) fun v15=>eb rows (.pick (.c v11) (.c (.bool true)) (.c v15)) fun v16=>Y0 F cx k r rows low 133 [(28,v16),(27,v15),(26,v14),(25,v13),(24,v12),(23,v11),(22,v11),(21,v10),(20,v9),(19,v8),(18,v7),(17,v6),(16,v6),(15,v5),(14,v4),(13,v3),(12,v2),(11,v2),(10,v1),(9,v0),(1,lk l 1)]:=rg
@[simp] theorem uc59s44:U c59s44 (.seq (.seq c59k43 c59s42) c59s40):=ur
@[simp] theorem uc59k45:X0 F cx k l rows low r 133 c59k45↔bnd (evE rows low (.box (cl l 0))) fun q0=>Y0 F cx k r q0.2.1 q0.2.2 133 [(2,(.int .i64 0)),(1,q0.1),(0,lk l 0)]:=rg
@[simp] abbrev Kc59l2:List Itm:=.inLoop c59l2::.inBlock 2::.code c59s1::[]
@[simp] abbrev Kc59l4:List Itm:=.inLoop c59l4::.inBlock 4::.inBlock 3::.code c59k3::Kc59l2
def Lc59l4(F:Nat->Option IFn)(cx:Ctx)(x1 x71 x72 x73 x120 x121 x122:AV)(rows:List Row)(low:Nat)(r:AV×List Row×Nat->Prop):Prop:=Ex F cx (.code c59l4::Kc59l4) ⟨mk 133 [(1,x1),(71,x71),(72,x72),(73,x73),(120,x120),(121,x121),(122,x122)],rows,low⟩ r
@[simp] theorem nc59l4:Ex F cx (Kc59l4) ⟨mk 133 l,rows,low⟩ r↔Lc59l4 F cx (lk l 1) (lk l 71) (lk l 72) (lk l 73) (lk l 120) (lk l 121) (lk l 122) rows low r:=AA (keep:=Gu) (by kernel_rfl)
@[simp] theorem uc59l4:U c59l4 (.seq c59k13 c59s12):=ur
def Jc59s16(F:Nat->Option IFn)(cx:Ctx)(x1 x6 x71 x72 x73:AV)(rows:List Row)(low:Nat)(r:AV×List Row×Nat->Prop):Prop:=Ex F cx (.code c59s16::.inBlock 3::.code c59k3::Kc59l2) ⟨mk 133 [(1,x1),(6,x6),(71,x71),(72,x72),(73,x73)],rows,low⟩ r
theorem jc59s16:Ex F cx (.code c59s16::.inBlock 3::.code c59k3::Kc59l2) ⟨mk 133 l,rows,low⟩ r↔Jc59s16 F cx (lk l 1) (lk l 6) (lk l 71) (lk l 72) (lk l 73) rows low r:=Io (keep:=R8) (by kernel_rfl)
def Lc59l2(F:Nat->Option IFn)(cx:Ctx)(x1 x71 x72 x73:AV)(rows:List Row)(low:Nat)(r:AV×List Row×Nat->Prop):Prop:=Ex F cx (.code c59l2::Kc59l2) ⟨mk 133 [(1,x1),(71,x71),(72,x72),(73,x73)],rows,low⟩ r
@[simp] theorem nc59l2:Ex F cx (Kc59l2) ⟨mk 133 l,rows,low⟩ r↔Lc59l2 F cx (lk l 1) (lk l 71) (lk l 72) (lk l 73) rows low r:=AA (keep:=F7) (by kernel_rfl)
@[simp] theorem uc59l2:U c59l2 (.seq c59k24 c59s23):=ur
@[simp] abbrev Kc59l28:List Itm:=.inLoop c59l28::.inBlock 0::.code c59s27::[]
def Lc59l28(F:Nat->Option IFn)(cx:Ctx)(x1 x30 x31 x32:AV)(rows:List Row)(low:Nat)(r:AV×List Row×Nat->Prop):Prop:=Ex F cx (.code c59l28::Kc59l28) ⟨mk 133 [(1,x1),(30,x30),(31,x31),(32,x32)],rows,low⟩ r
@[simp] theorem nc59l28:Ex F cx (Kc59l28) ⟨mk 133 l,rows,low⟩ r↔Lc59l28 F cx (lk l 1) (lk l 30) (lk l 31) (lk l 32) rows low r:=AA (keep:=Gd) (by kernel_rfl)
@[simp] theorem uc59l28:U c59l28 (.seq c59k37 c59s36):=ur
@[simp] theorem uc59b:U c59b (.seq c59k45 c59s44):=ur
theorem i59{x0:AV}(hF:F 59=some c59){q:AV×List Row×Option Nat}(h:Ex F (.fn [.t 2]) [.code c59b] ⟨mk 133 [(0,x0)],rows,rows.length⟩ fun r=>fin rows r.1 r.2.1 r.2.2=q):Ret F 59 [x0] rows=some q:=Av hF h
@[simp] theorem uc60k0:X0 F cx k l rows low r 29 c60k0↔Y0 F cx k r rows low 29 [(6,(.int .i64 (-1)))]:=rg
@[simp] theorem uc60s1:U c60s1 (.seq c60k0 .ret):=ur
@[simp] theorem uc60k3:X0 F cx k l rows low r 29 c60k3↔eb rows (.bin .add (cl l 7) (ci 1)) fun v0=>Y0 F cx k r rows low 29 ([(7,v0),(14,v0),(13,lk l 7)]++kp l Qg):=rg
@[simp] theorem uc60k4:X0 F cx k l rows low r 29 c60k4↔Y0 F cx k r rows low 29 [(6,lk l 7),(28,lk l 7),(7,lk l 7)]:=rg
@[simp] theorem uc60s5:U c60s5 (.cond (.t 27) (.seq c60k4 .ret) .skip):=ur
@[simp] theorem uc60k6:X0 F cx k l rows low r 29 c60k6↔eb rows (.fieldA 1 (cl l 3)) fun v0=>eb rows (.load1 (.c v0)) fun v1=>eb rows (.idxS 2 (.c v1) (cl l 7)) fun v2=>eb rows (.loadN 2 (.c v2)) fun v3=>eb rows (.mn [(cl l 1),(cl l 2)]) fun v4=>eb rows (.mx [(cl l 1),(cl l 2)]) fun v5=>eb rows (.mkagg [.int .i64 0,.int .i64 0] [(0,1,(.c v4)),(1,1,(.c v5))]) fun v6=>eb rows (.eqv false (.ints 2) (.c v3) (.c v6)) fun v7=>Y0 F cx k r rows low 29 ([(27,v7),(26,v6),(25,v5),(24,lk l 2),(23,lk l 1),(22,v4),(21,lk l 2),(20,lk l 1),(19,v3),(18,v2),(17,lk l 7),(16,v1),(15,v0)]++kp l Qg):=rg
@[simp] theorem uc60s7:U c60s7 (.seq (.block 1 (.seq c60k6 c60s5)) c60k3):=ur
@[simp] theorem uc60s8:U c60s8 (.cond (.t 12) .skip (.exit 0)):=ur
@[simp] theorem uc60k9:X0 F cx k l rows low r 29 c60k9↔eb rows (.fieldA 1 (cl l 3)) fun v0=>eb rows (.load1 (.c v0)) fun v1=>eb rows (.len 0 (.c v1)) fun v2=>eb rows (.bin .lss (cl l 7) (.c v2)) fun v3=>Y0 F cx k r rows low 29 ([(12,v3),(11,v2),(10,v1),(9,v0),(8,lk l 7)]++kp l Qg):=rg
@[simp] theorem uc60s10:U c60s10 (.block 0 (.loop c60l2)):=ur
@[simp] theorem uc60k11:X0 F cx k l rows low r 29 c60k11↔Y0 F cx k r rows low 29 ([(7,(.int .i64 0))]++kp l FM):=rg
@[simp] theorem uc60s12:U c60s12 (.seq (.seq c60k11 c60s10) c60s1):=ur
@[simp] theorem uc60k13:X0 F cx k l rows low r 29 c60k13↔bnd (evE rows low (.box (cl l 0))) fun q0=>Y0 F cx k r q0.2.1 q0.2.2 29 ([(6,(.int .i64 0)),(3,q0.1)]++kp l qq1):=rg
@[simp] abbrev Kc60l2:List Itm:=.inLoop c60l2::.inBlock 0::.code c60s1::[]
def Lc60l2(F:Nat->Option IFn)(cx:Ctx)(x1 x2 x3 x7:AV)(rows:List Row)(low:Nat)(r:AV×List Row×Nat->Prop):Prop:=Ex F cx (.code c60l2::Kc60l2) ⟨mk 29 [(1,x1),(2,x2),(3,x3),(7,x7)],rows,low⟩ r
@[simp] theorem nc60l2:Ex F cx (Kc60l2) ⟨mk 29 l,rows,low⟩ r↔Lc60l2 F cx (lk l 1) (lk l 2) (lk l 3) (lk l 7) rows low r:=AA (keep:=Qg) (by kernel_rfl)
@[simp] theorem uc60l2:U c60l2 (.seq (.seq c60k9 c60s8) c60s7):=ur
@[simp] theorem uc60b:U c60b (.seq c60k13 c60s12):=ur
theorem i60{x0 x1 x2:AV}(hF:F 60=some c60){q:AV×List Row×Option Nat}(h:Ex F (.fn [.t 6]) [.code c60b] ⟨mk 29 [(0,x0),(1,x1),(2,x2)],rows,rows.length⟩ fun r=>fin rows r.1 r.2.1 r.2.2=q):Ret F 60 [x0,x1,x2] rows=some q:=Av hF h
@[simp] theorem uc61k0:X0 F cx k l rows low r 39 c61k0↔Y0 F cx k r rows low 39 [(4,(.bool false))]:=rg
@[simp] theorem uc61s1:U c61s1 (.seq c61k0 .ret):=ur
@[simp] theorem uc61k3:X0 F cx k l rows low r 39 c61k3↔eb rows (.bin .add (cl l 5) (ci 1)) fun v0=>Y0 F cx k r rows low 39 ([(5,v0),(15,v0),(14,lk l 5)]++kp l Cw):=rg
@[simp] theorem uc61k4:X0 F cx k l rows low r 39 c61k4↔Y0 F cx k r rows low 39 [(4,(.bool true))]:=rg
@[simp] theorem uc61s5:U c61s5 (.cond (.t 38) (.seq c61k4 .ret) .skip):=ur
@[simp] theorem uc61k6:X0 F cx k l rows low r 39 c61k6↔eb rows (.idxS 3 (cl l 0) (cl l 5)) fun v0=>eb rows (.idxA 3 1 (.c v0) (ci 0)) fun v1=>eb rows (.load1 (.c v1)) fun v2=>eb rows (.idxS 3 (cl l 0) (cl l 5)) fun v3=>eb rows (.idxA 3 1 (.c v3) (ci 1)) fun v4=>eb rows (.load1 (.c v4)) fun v5=>eb rows (.bin .add (.c v2) (.c v5)) fun v6=>eb rows (.idxS 3 (cl l 0) (cl l 5)) fun v7=>eb rows (.idxA 3 1 (.c v7) (ci 2)) fun v8=>eb rows (.load1 (.c v8)) fun v9=>eb rows (.bin .add (.c v6) (.c v9)) fun v10=>eb rows (.conv .u64 (.c v10)) fun v11=>eb rows (.bin .rem (.c v11) (.c (.int .u64 4))) fun v12=>eb rows (.conv .u64 (cl l 1)) fun v13=>eb rows (.bin .rem (.c v13) (.c (.int .u64 4))) fun v14=>eb rows (.bin .eql (.c v12) (.c v14)) fun v15=>Y0 F cx k r rows low 39 ([(38,v15),(37,v14),(36,v13),(35,lk l 1),(34,v12),(33,v11),(32,v10),(31,v9),(30,v8),(29,v7),(28,lk l 5),(27,lk l 0),(26,v6),(25,v5),(24,v4),(23,v3),(22,lk l 5),(21,lk l 0),(20,v2),(19,v1),(18,v0),(17,lk l 5),(16,lk l 0)]++kp l Cw):=rg
@[simp] theorem uc61s7:U c61s7 (.seq (.block 1 (.seq c61k6 c61s5)) c61k3):=ur
@[simp] theorem uc61s8:U c61s8 (.cond (.t 13) .skip (.exit 0)):=ur
@[simp] theorem uc61k9:X0 F cx k l rows low r 39 c61k9↔eb rows (.len 0 (cl l 0)) fun v0=>eb rows (.bin .lss (cl l 5) (.c v0)) fun v1=>bnd (gv v1 true (evP rows (.mv (cl l 5)))) fun v2=>bnd (gv v1 true (evP rows (.bin .lss (.c v2) (ci 10)))) fun v3=>eb rows (.pick (.c v1) (.c v3) (.c (.bool false))) fun v4=>Y0 F cx k r rows low 39 ([(13,v4),(12,v3),(11,v2),(10,v1),(9,v1),(8,v0),(7,lk l 0),(6,lk l 5)]++kp l Cw):=rg
@[simp] theorem uc61s10:U c61s10 (.block 0 (.loop c61l2)):=ur
@[simp] theorem uc61k11:X0 F cx k l rows low r 39 c61k11↔Y0 F cx k r rows low 39 [(5,(.int .i64 0)),(0,lk l 0),(1,lk l 1)]:=rg
@[simp] theorem uc61s12:U c61s12 (.seq (.seq c61k11 c61s10) c61s1):=ur
@[simp] theorem uc61k13:X0 F cx k l rows low r 39 c61k13↔Y0 F cx k r rows low 39 [(4,(.bool false)),(0,lk l 0),(1,lk l 1)]:=rg
@[simp] abbrev Kc61l2:List Itm:=.inLoop c61l2::.inBlock 0::.code c61s1::[]
def Lc61l2(F:Nat->Option IFn)(cx:Ctx)(x0 x1 x5:AV)(rows:List Row)(low:Nat)(r:AV×List Row×Nat->Prop):Prop:=Ex F cx (.code c61l2::Kc61l2) ⟨mk 39 [(0,x0),(1,x1),(5,x5)],rows,low⟩ r
@[simp] theorem nc61l2:Ex F cx (Kc61l2) ⟨mk 39 l,rows,low⟩ r↔Lc61l2 F cx (lk l 0) (lk l 1) (lk l 5) rows low r:=AA (keep:=Cw) (by kernel_rfl)
@[simp] theorem uc61l2:U c61l2 (.seq (.seq c61k9 c61s8) c61s7):=ur
@[simp] theorem uc61b:U c61b (.seq c61k13 c61s12):=ur
theorem i61{x0 x1:AV}(hF:F 61=some c61){q:AV×List Row×Option Nat}(h:Ex F (.fn [.t 4]) [.code c61b] ⟨mk 39 [(0,x0),(1,x1)],rows,rows.length⟩ fun r=>fin rows r.1 r.2.1 r.2.2=q):Ret F 61 [x0,x1] rows=some q:=Av hF h
@[simp] theorem uc66k0:X0 F cx k l rows low r 22 c66k0↔Y0 F cx k r rows low 22 [(6,(.int .i64 0))]:=rg
@[simp] theorem uc66s1:U c66s1 (.seq c66k0 .ret):=ur
@[simp] theorem uc66k2:X0 F cx k l rows low r 22 c66k2↔Y0 F cx k r rows low 22 [(6,(.int .i64 1))]:=rg
@[simp] theorem uc66s3:U c66s3 (.cond (.t 21) (.seq c66k2 .ret) .skip):=ur
@[simp] theorem uc66k4:X0 F cx k l rows low r 22 c66k4↔eb rows (.len 0 (cl l 1)) fun v0=>Bp F rows low [] (fun v1 R1 L1=>bnd (evP R1 (.bin .neq (.c v0) (.c v1))) fun v2=>bnd (gv v2 false (evP R1 (.mv (cl l 1)))) fun v3=>CF F v2 false R1 L1 [v3,(.func 94 [])] [] (.func 83 []) fun v4 R4 L4=>bnd (evP R4 (.pick (.c v2) (.c (.bool true)) (.c v4))) fun v5=>Ex F cx k ⟨mk 22 [(21,v5),(20,v4),(19,v3),(18,v2),(17,v2),(16,v1),(15,lk l 2),(14,v0),(13,lk l 1),(1,lk l 1),(2,lk l 2)],R4,L4⟩ r) [] (lk l 2):=rg
@[simp] theorem uc66s5:U c66s5 (.seq (.seq c66k4 c66s3) c66s1):=ur
@[simp] theorem uc66k6:X0 F cx k l rows low r 22 c66k6↔Y0 F cx k r rows low 22 [(6,lk l 7),(12,lk l 7),(7,lk l 7)]:=rg
@[simp] theorem uc66s7:U c66s7 (.cond (.t 11) (.seq c66k6 .ret) .skip):=ur
@[simp] theorem uc66k8:X0 F cx k l rows low r 22 c66k8↔eb rows (.bin .neq (cl l 7) (ci 0)) fun v0=>Y0 F cx k r rows low 22 ([(11,v0),(10,lk l 7)]++kp l Eh):=rg
@[simp] theorem uc66s9:U c66s9 (.seq c66k8 c66s7):=ur
@[simp] theorem uc66k10:X0 F cx k l rows low r 22 c66k10↔eb rows (.loadN 3 (cl l 3)) fun v0=>bnd (Ret F 59 [v0] rows) fun q1=>Y0 F cx k r q1.2.1 (AC low q1.2.2) 22 ([(7,q1.1),(9,q1.1),(8,v0)]++kp l FM):=rg
@[simp] theorem uc66s11:U c66s11 (.seq (.seq c66k10 c66s9) c66s5):=ur
@[simp] theorem uc66k12:X0 F cx k l rows low r 22 c66k12↔bnd (evE rows low (.box (cl l 0))) fun q0=>Y0 F cx k r q0.2.1 q0.2.2 22 ([(6,(.int .i64 0)),(3,q0.1)]++kp l qq1):=rg
@[simp] theorem uc66b:U c66b (.seq c66k12 c66s11):=ur
theorem i66{x0 x1 x2:AV}(hF:F 66=some c66){q:AV×List Row×Option Nat}(h:Ex F (.fn [.t 6]) [.code c66b] ⟨mk 22 [(0,x0),(1,x1),(2,x2)],rows,rows.length⟩ fun r=>fin rows r.1 r.2.1 r.2.2=q):Ret F 66 [x0,x1,x2] rows=some q:=Av hF h
@[simp] theorem uc67k0:X0 F cx k l rows low r 6 c67k0↔eb rows (.fieldA 1 (cl l 1)) fun v0=>eb rows (.load1 (.c v0)) fun v1=>eb rows (.len 0 (.c v1)) fun v2=>Y0 F cx k r rows low 6 [(2,v2),(5,v2),(4,v1),(3,v0),(1,lk l 1)]:=rg
@[simp] theorem uc67s1:U c67s1 (.seq c67k0 .ret):=ur
@[simp] theorem uc67k2:X0 F cx k l rows low r 6 c67k2↔bnd (evE rows low (.box (cl l 0))) fun q0=>Y0 F cx k r q0.2.1 q0.2.2 6 [(2,(.int .i64 0)),(1,q0.1),(0,lk l 0)]:=rg
@[simp] theorem uc67b:U c67b (.seq c67k2 c67s1):=ur
theorem i67{x0:AV}(hF:F 67=some c67){q:AV×List Row×Option Nat}(h:Ex F (.fn [.t 2]) [.code c67b] ⟨mk 6 [(0,x0)],rows,rows.length⟩ fun r=>fin rows r.1 r.2.1 r.2.2=q):Ret F 67 [x0] rows=some q:=Av hF h
@[simp] theorem uc74k0:X0 F cx k l rows low r 5 c74k0↔eb rows (.fieldA 0 (cl l 1)) fun v0=>eb rows (.load1 (.c v0)) fun v1=>Y0 F cx k r rows low 5 [(2,v1),(4,v1),(3,v0),(1,lk l 1)]:=rg
@[simp] theorem uc74s1:U c74s1 (.seq c74k0 .ret):=ur
@[simp] theorem uc74k2:X0 F cx k l rows low r 5 c74k2↔bnd (evE rows low (.box (cl l 0))) fun q0=>Y0 F cx k r q0.2.1 q0.2.2 5 [(2,(.int .i64 0)),(1,q0.1),(0,lk l 0)]:=rg
@[simp] theorem uc74b:U c74b (.seq c74k2 c74s1):=ur
theorem i74{x0:AV}(hF:F 74=some c74){q:AV×List Row×Option Nat}(h:Ex F (.fn [.t 2]) [.code c74b] ⟨mk 5 [(0,x0)],rows,rows.length⟩ fun r=>fin rows r.1 r.2.1 r.2.2=q):Ret F 74 [x0] rows=some q:=Av hF h
@[simp] theorem uc75k0:X0 F cx k l rows low r 19 c75k0↔Y0 F cx k r rows low 19 [(4,(.int .i64 (-1)))]:=rg
@[simp] theorem uc75s1:U c75s1 (.seq c75k0 .ret):=ur
@[simp] theorem uc75k3:X0 F cx k l rows low r 19 c75k3↔eb rows (.bin .add (cl l 8) (ci 1)) fun v0=>Y0 F cx k r rows low 19 ([(8,v0),(18,v0)]++kp l Qc):=rg
@[simp] theorem uc75k4:X0 F cx k l rows low r 19 c75k4↔Y0 F cx k r rows low 19 [(4,lk l 5),(17,lk l 5),(5,lk l 5)]:=rg
@[simp] theorem uc75s5:U c75s5 (.cond (.t 16) (.seq c75k4 .ret) .skip):=ur
@[simp] theorem uc75k6:X0 F cx k l rows low r 19 c75k6↔eb rows (.loadN 2 (cl l 3)) fun v0=>eb rows (.idxS 2 (cl l 0) (cl l 5)) fun v1=>eb rows (.loadN 2 (.c v1)) fun v2=>eb rows (.eqv false (.ints 2) (.c v0) (.c v2)) fun v3=>Y0 F cx k r rows low 19 ([(16,v3),(15,v2),(14,v1),(13,lk l 5),(12,lk l 0),(11,v0)]++kp l Abx):=rg
@[simp] theorem uc75s7:U c75s7 (.seq c75k6 c75s5):=ur
@[simp] theorem uc75k8:X0 F cx k l rows low r 19 c75k8↔Y0 F cx k r rows low 19 ([(5,lk l 8),(10,lk l 8)]++kp l Qc):=rg
@[simp] theorem uc75s9:U c75s9 (.seq (.block 1 (.seq c75k8 c75s7)) c75k3):=ur
@[simp] theorem uc75s10:U c75s10 (.seq (.cond (.t 9) .skip (.exit 0)) c75s9):=ur
@[simp] theorem uc75k11:X0 F cx k l rows low r 19 c75k11↔eb rows (.bin .lss (cl l 8) (cl l 7)) fun v0=>Y0 F cx k r rows low 19 ([(9,v0)]++kp l Qc):=rg
@[simp] theorem uc75s12:U c75s12 (.block 0 (.loop c75l2)):=ur
@[simp] theorem uc75k13:X0 F cx k l rows low r 19 c75k13↔eb rows (.len 0 (cl l 0)) fun v0=>Y0 F cx k r rows low 19 [(8,(.int .i64 0)),(7,v0),(6,lk l 0),(0,lk l 0),(3,lk l 3)]:=rg
@[simp] theorem uc75s14:U c75s14 (.seq (.seq c75k13 c75s12) c75s1):=ur
@[simp] theorem uc75k15:X0 F cx k l rows low r 19 c75k15↔bnd (evE rows low (.box (cl l 1))) fun q0=>Y0 F cx k r q0.2.1 q0.2.2 19 [(4,(.int .i64 0)),(3,q0.1),(0,lk l 0),(1,lk l 1)]:=rg
@[simp] abbrev Kc75l2:List Itm:=.inLoop c75l2::.inBlock 0::.code c75s1::[]
def Lc75l2(F:Nat->Option IFn)(cx:Ctx)(x0 x3 x7 x8:AV)(rows:List Row)(low:Nat)(r:AV×List Row×Nat->Prop):Prop:=Ex F cx (.code c75l2::Kc75l2) ⟨mk 19 [(0,x0),(3,x3),(7,x7),(8,x8)],rows,low⟩ r
@[simp] theorem nc75l2:Ex F cx (Kc75l2) ⟨mk 19 l,rows,low⟩ r↔Lc75l2 F cx (lk l 0) (lk l 3) (lk l 7) (lk l 8) rows low r:=AA (keep:=Qc) (by kernel_rfl)
@[simp] theorem uc75l2:U c75l2 (.seq c75k11 c75s10):=ur
@[simp] theorem uc75b:U c75b (.seq c75k15 c75s14):=ur
theorem i75{x0 x1:AV}(hF:F 75=some c75){q:AV×List Row×Option Nat}(h:Ex F (.fn [.t 4]) [.code c75b] ⟨mk 19 [(0,x0),(1,x1)],rows,rows.length⟩ fun r=>fin rows r.1 r.2.1 r.2.2=q):Ret F 75 [x0,x1] rows=some q:=Av hF h
@[simp] theorem uc83k0:X0 F cx k l rows low r 9 c83k0↔bnd (Ret F 103 [lk l 0,lk l 1] rows) fun q0=>bnd (evP q0.2.1 (.bin .geq (.c q0.1) (ci 0))) fun v1=>Y0 F cx k r q0.2.1 (AC low q0.2.2) 9 [(4,v1),(8,v1),(7,q0.1),(6,lk l 1),(5,lk l 0),(0,lk l 0),(1,lk l 1)]:=rg
@[simp] theorem uc83s1:U c83s1 (.seq c83k0 .ret):=ur
@[simp] theorem uc83k2:X0 F cx k l rows low r 9 c83k2↔Y0 F cx k r rows low 9 [(4,(.bool false)),(0,lk l 0),(1,lk l 1)]:=rg
@[simp] theorem uc83b:U c83b (.seq c83k2 c83s1):=ur
theorem i83{x0 x1:AV}(hF:F 83=some c83){q:AV×List Row×Option Nat}(h:Ex F (.fn [.t 4]) [.code c83b] ⟨mk 9 [(0,x0),(1,x1)],rows,rows.length⟩ fun r=>fin rows r.1 r.2.1 r.2.2=q):Ret F 83 [x0,x1] rows=some q:=Av hF h
@[simp] theorem uc91k0:X0 F cx k l rows low r 36 c91k0↔Y0 F cx k r rows low 36 [(4,(.int .i64 0))]:=rg
@[simp] theorem uc91s1:U c91s1 (.seq c91k0 .ret):=ur
@[simp] theorem uc91k2:X0 F cx k l rows low r 36 c91k2↔Y0 F cx k r rows low 36 [(4,(.int .i64 (-1)))]:=rg
@[simp] theorem uc91s3:U c91s3 (.cond (.t 35) (.seq c91k2 .ret) .skip):=ur
@[simp] theorem uc91k4:X0 F cx k l rows low r 36 c91k4↔eb rows (.len 0 (cl l 0)) fun v0=>eb rows (.len 0 (cl l 1)) fun v1=>eb rows (.bin .lss (.c v0) (.c v1)) fun v2=>Y0 F cx k r rows low 36 [(35,v2),(34,v1),(33,lk l 1),(32,v0),(31,lk l 0),(0,lk l 0),(1,lk l 1)]:=rg
@[simp] theorem uc91s5:U c91s5 (.seq (.seq c91k4 c91s3) c91s1):=ur
@[simp] theorem uc91k7:X0 F cx k l rows low r 36 c91k7↔eb rows (.bin .add (cl l 11) (ci 1)) fun v0=>Y0 F cx k r rows low 36 ([(11,v0),(30,v0)]++kp l Qa):=rg
@[simp] theorem uc91k8:X0 F cx k l rows low r 36 c91k8↔Y0 F cx k r rows low 36 [(4,lk l 8),(29,lk l 8),(8,lk l 8)]:=rg
@[simp] theorem uc91s9:U c91s9 (.cond (.t 28) (.seq c91k8 .ret) .skip):=ur
@[simp] theorem uc91k10:X0 F cx k l rows low r 36 c91k10↔eb rows (.bin .neq (cl l 8) (ci 0)) fun v0=>Y0 F cx k r rows low 36 ([(28,v0),(27,lk l 8)]++kp l Abg):=rg
@[simp] theorem uc91s11:U c91s11 (.seq c91k10 c91s9):=ur
@[simp] theorem uc91k12:X0 F cx k l rows low r 36 c91k12↔bnd (Ret F 105 [lk l 6,lk l 7] rows) fun q0=>Y0 F cx k r q0.2.1 (AC low q0.2.2) 36 ([(8,q0.1),(26,q0.1),(25,lk l 7),(24,lk l 6)]++kp l Aah):=rg
@[simp] theorem uc91s13:U c91s13 (.seq c91k12 c91s11):=ur
@[simp] theorem uc91k14:X0 F cx k l rows low r 36 c91k14↔eb rows (.idxS 1 (cl l 1) (cl l 5)) fun v0=>eb rows (.load1 (.c v0)) fun v1=>Y0 F cx k r rows low 36 ([(7,v1),(23,v1),(22,v0),(21,lk l 5),(20,lk l 1)]++kp l Wt):=rg
@[simp] theorem uc91s15:U c91s15 (.seq c91k14 c91s13):=ur
@[simp] theorem uc91k16:X0 F cx k l rows low r 36 c91k16↔Y0 F cx k r rows low 36 [(4,(.int .i64 1))]:=rg
@[simp] theorem uc91s17:U c91s17 (.cond (.t 19) (.seq c91k16 .ret) .skip):=ur
@[simp] theorem uc91k18:X0 F cx k l rows low r 36 c91k18↔eb rows (.len 0 (cl l 1)) fun v0=>eb rows (.bin .geq (cl l 5) (.c v0)) fun v1=>Y0 F cx k r rows low 36 ([(19,v1),(18,v0),(17,lk l 1),(16,lk l 5)]++kp l Wt):=rg
@[simp] theorem uc91s19:U c91s19 (.seq (.seq c91k18 c91s17) c91s15):=ur
@[simp] theorem uc91k20:X0 F cx k l rows low r 36 c91k20↔eb rows (.idxS 1 (cl l 9) (cl l 11)) fun v0=>eb rows (.load1 (.c v0)) fun v1=>Y0 F cx k r rows low 36 ([(6,v1),(5,lk l 11),(15,v1),(14,v0),(13,lk l 11)]++kp l Qa):=rg
@[simp] theorem uc91s21:U c91s21 (.seq (.block 1 (.seq c91k20 c91s19)) c91k7):=ur
@[simp] theorem uc91s22:U c91s22 (.seq (.cond (.t 12) .skip (.exit 0)) c91s21):=ur
@[simp] theorem uc91k23:X0 F cx k l rows low r 36 c91k23↔eb rows (.bin .lss (cl l 11) (cl l 10)) fun v0=>Y0 F cx k r rows low 36 ([(12,v0)]++kp l Qa):=rg
@[simp] theorem uc91s24:U c91s24 (.block 0 (.loop c91l6)):=ur
@[simp] theorem uc91k25:X0 F cx k l rows low r 36 c91k25↔eb rows (.len 0 (cl l 0)) fun v0=>Y0 F cx k r rows low 36 [(11,(.int .i64 0)),(10,v0),(9,lk l 0),(0,lk l 0),(1,lk l 1)]:=rg
@[simp] theorem uc91s26:U c91s26 (.seq (.seq c91k25 c91s24) c91s5):=ur
@[simp] theorem uc91k27:X0 F cx k l rows low r 36 c91k27↔Y0 F cx k r rows low 36 [(4,(.int .i64 0)),(0,lk l 0),(1,lk l 1)]:=rg
@[simp] abbrev Kc91l6:List Itm:=.inLoop c91l6::.inBlock 0::.code c91s5::[]
def Lc91l6(F:Nat->Option IFn)(cx:Ctx)(x0 x1 x9 x10 x11:AV)(rows:List Row)(low:Nat)(r:AV×List Row×Nat->Prop):Prop:=Ex F cx (.code c91l6::Kc91l6) ⟨mk 36 [(0,x0),(1,x1),(9,x9),(10,x10),(11,x11)],rows,low⟩ r
@[simp] theorem nc91l6:Ex F cx (Kc91l6) ⟨mk 36 l,rows,low⟩ r↔Lc91l6 F cx (lk l 0) (lk l 1) (lk l 9) (lk l 10) (lk l 11) rows low r:=AA (keep:=Qa) (by kernel_rfl)
@[simp] theorem uc91l6:U c91l6 (.seq c91k23 c91s22):=ur
@[simp] theorem uc91b:U c91b (.seq c91k27 c91s26):=ur
theorem i91{x0 x1:AV}(hF:F 91=some c91){q:AV×List Row×Option Nat}(h:Ex F (.fn [.t 4]) [.code c91b] ⟨mk 36 [(0,x0),(1,x1)],rows,rows.length⟩ fun r=>fin rows r.1 r.2.1 r.2.2=q):Ret F 91 [x0,x1] rows=some q:=Av hF h
@[simp] theorem uc92k0:X0 F cx k l rows low r 9 c92k0↔eb rows (.loadN 2 (cl l 3)) fun v0=>bnd (Ret F 75 [lk l 0,v0] rows) fun q1=>bnd (evP q1.2.1 (.bin .geq (.c q1.1) (ci 0))) fun v2=>Y0 F cx k r q1.2.1 (AC low q1.2.2) 9 [(4,v2),(8,v2),(7,q1.1),(6,v0),(5,lk l 0),(0,lk l 0),(3,lk l 3)]:=rg
@[simp] theorem uc92s1:U c92s1 (.seq c92k0 .ret):=ur
@[simp] theorem uc92k2:X0 F cx k l rows low r 9 c92k2↔bnd (evE rows low (.box (cl l 1))) fun q0=>Y0 F cx k r q0.2.1 q0.2.2 9 [(4,(.bool false)),(3,q0.1),(0,lk l 0),(1,lk l 1)]:=rg
@[simp] theorem uc92b:U c92b (.seq c92k2 c92s1):=ur
theorem i92{x0 x1:AV}(hF:F 92=some c92){q:AV×List Row×Option Nat}(h:Ex F (.fn [.t 4]) [.code c92b] ⟨mk 9 [(0,x0),(1,x1)],rows,rows.length⟩ fun r=>fin rows r.1 r.2.1 r.2.2=q):Ret F 92 [x0,x1] rows=some q:=Av hF h
@[simp] theorem uc94k0:X0 F cx k l rows low r 9 c94k0↔eb rows (.bin .lss (cl l 0) (.c (.int .i64 (-100)))) fun v0=>bnd (gv v0 false (evP rows (.mv (cl l 0)))) fun v1=>bnd (gv v0 false (evP rows (.bin .gtr (.c v1) (ci 100)))) fun v2=>eb rows (.pick (.c v0) (.c (.bool true)) (.c v2)) fun v3=>Y0 F cx k r rows low 9 [(2,v3),(8,v3),(7,v2),(6,v1),(5,v0),(4,v0),(3,lk l 0),(0,lk l 0)]:=rg
@[simp] theorem uc94s1:U c94s1 (.seq c94k0 .ret):=ur
@[simp] theorem uc94k2:X0 F cx k l rows low r 9 c94k2↔Y0 F cx k r rows low 9 [(2,(.bool false)),(0,lk l 0)]:=rg
@[simp] theorem uc94b:U c94b (.seq c94k2 c94s1):=ur
theorem i94{x0:AV}(hF:F 94=some c94){q:AV×List Row×Option Nat}(h:Ex F (.fn [.t 2]) [.code c94b] ⟨mk 9 [(0,x0)],rows,rows.length⟩ fun r=>fin rows r.1 r.2.1 r.2.2=q):Ret F 94 [x0] rows=some q:=Av hF h
@[simp] theorem uc103k0:X0 F cx k l rows low r 19 c103k0↔Y0 F cx k r rows low 19 [(4,(.int .i64 (-1)))]:=rg
@[simp] theorem uc103s1:U c103s1 (.seq c103k0 .ret):=ur
@[simp] theorem uc103k3:X0 F cx k l rows low r 19 c103k3↔eb rows (.bin .add (cl l 8) (ci 1)) fun v0=>Y0 F cx k r rows low 19 ([(8,v0),(18,v0)]++kp l Qj):=rg
@[simp] theorem uc103k4:X0 F cx k l rows low r 19 c103k4↔Y0 F cx k r rows low 19 [(4,lk l 5),(17,lk l 5),(5,lk l 5)]:=rg
@[simp] theorem uc103s5:U c103s5 (.cond (.t 16) (.seq c103k4 .ret) .skip):=ur
@[simp] theorem uc103k6:X0 F cx k l rows low r 19 c103k6↔eb rows (.idxS 1 (cl l 0) (cl l 5)) fun v0=>eb rows (.load1 (.c v0)) fun v1=>Bp F rows low [v1] (fun v2 R2 L2=>Ex F cx k ⟨mk 19 ([(16,v2),(15,v1),(14,v0),(13,lk l 5),(12,lk l 0),(11,lk l 1)]++kp l AbH),R2,L2⟩ r) [] (lk l 1):=rg
@[simp] theorem uc103s7:U c103s7 (.seq c103k6 c103s5):=ur
@[simp] theorem uc103k8:X0 F cx k l rows low r 19 c103k8↔Y0 F cx k r rows low 19 ([(5,lk l 8),(10,lk l 8)]++kp l Qj):=rg
@[simp] theorem uc103s9:U c103s9 (.seq (.block 1 (.seq c103k8 c103s7)) c103k3):=ur
@[simp] theorem uc103s10:U c103s10 (.seq (.cond (.t 9) .skip (.exit 0)) c103s9):=ur
@[simp] theorem uc103k11:X0 F cx k l rows low r 19 c103k11↔eb rows (.bin .lss (cl l 8) (cl l 7)) fun v0=>Y0 F cx k r rows low 19 ([(9,v0)]++kp l Qj):=rg
@[simp] theorem uc103s12:U c103s12 (.block 0 (.loop c103l2)):=ur
@[simp] theorem uc103k13:X0 F cx k l rows low r 19 c103k13↔eb rows (.len 0 (cl l 0)) fun v0=>Y0 F cx k r rows low 19 [(8,(.int .i64 0)),(7,v0),(6,lk l 0),(0,lk l 0),(1,lk l 1)]:=rg
@[simp] theorem uc103s14:U c103s14 (.seq (.seq c103k13 c103s12) c103s1):=ur
@[simp] theorem uc103k15:X0 F cx k l rows low r 19 c103k15↔Y0 F cx k r rows low 19 [(4,(.int .i64 0)),(0,lk l 0),(1,lk l 1)]:=rg
@[simp] abbrev Kc103l2:List Itm:=.inLoop c103l2::.inBlock 0::.code c103s1::[]
def Lc103l2(F:Nat->Option IFn)(cx:Ctx)(x0 x1 x7 x8:AV)(rows:List Row)(low:Nat)(r:AV×List Row×Nat->Prop):Prop:=Ex F cx (.code c103l2::Kc103l2) ⟨mk 19 [(0,x0),(1,x1),(7,x7),(8,x8)],rows,low⟩ r
@[simp] theorem nc103l2:Ex F cx (Kc103l2) ⟨mk 19 l,rows,low⟩ r↔Lc103l2 F cx (lk l 0) (lk l 1) (lk l 7) (lk l 8) rows low r:=AA (keep:=Qj) (by kernel_rfl)
@[simp] theorem uc103l2:U c103l2 (.seq c103k11 c103s10):=ur
@[simp] theorem uc103b:U c103b (.seq c103k15 c103s14):=ur
theorem i103{x0 x1:AV}(hF:F 103=some c103){q:AV×List Row×Option Nat}(h:Ex F (.fn [.t 4]) [.code c103b] ⟨mk 19 [(0,x0),(1,x1)],rows,rows.length⟩ fun r=>fin rows r.1 r.2.1 r.2.2=q):Ret F 103 [x0,x1] rows=some q:=Av hF h
@[simp] theorem uc105k0:X0 F cx k l rows low r 20 c105k0↔Y0 F cx k r rows low 20 [(4,(.int .i64 0))]:=rg
@[simp] theorem uc105s1:U c105s1 (.seq c105k0 .ret):=ur
@[simp] theorem uc105k2:X0 F cx k l rows low r 20 c105k2↔Y0 F cx k r rows low 20 [(4,(.int .i64 1))]:=rg
@[simp] theorem uc105s3:U c105s3 (.cond (.t 19) (.seq c105k2 .ret) .skip):=ur
@[simp] theorem uc105k4:X0 F cx k l rows low r 20 c105k4↔eb rows (.bin .gtr (cl l 0) (cl l 1)) fun v0=>Y0 F cx k r rows low 20 [(19,v0),(18,lk l 1),(17,lk l 0),(0,lk l 0),(1,lk l 1)]:=rg
@[simp] theorem uc105s5:U c105s5 (.seq (.seq c105k4 c105s3) c105s1):=ur
@[simp] theorem uc105k6:X0 F cx k l rows low r 20 c105k6↔Y0 F cx k r rows low 20 [(4,(.int .i64 (-1)))]:=rg
@[simp] theorem uc105s7:U c105s7 (.cond (.t 16) (.seq c105k6 .ret) .skip):=ur
@[simp] theorem uc105k8:X0 F cx k l rows low r 20 c105k8↔eb rows (.bin .lss (cl l 0) (cl l 1)) fun v0=>Y0 F cx k r rows low 20 [(16,v0),(15,lk l 1),(14,lk l 0),(0,lk l 0),(1,lk l 1)]:=rg
@[simp] theorem uc105s9:U c105s9 (.seq (.seq c105k8 c105s7) c105s5):=ur
@[simp] theorem uc105s11:U c105s11 (.cond (.t 13) (.seq c105k10 .ret) .skip):=ur
@[simp] theorem uc105k12:X0 F cx k l rows low r 20 c105k12↔Y0 F cx k r rows low 20 ([(13,lk l 6)]++kp l Abi):=rg
@[simp] theorem uc105s13:U c105s13 (.seq (.seq c105k12 c105s11) c105s9):=ur
@[simp] theorem uc105s15:U c105s15 (.seq c105k14 .ret):=ur
@[simp] theorem uc105s17:U c105s17 (.cond (.t 12) (.seq c105k16 .ret) .skip):=ur
@[simp] theorem uc105s19:U c105s19 (.cond (.t 11) (.seq (.seq c105k18 c105s17) c105s15) .skip):=ur
@[simp] theorem uc105k20:X0 F cx k l rows low r 20 c105k20↔Y0 F cx k r rows low 20 ([(11,lk l 5)]++kp l EC):=rg
@[simp] theorem uc105s21:U c105s21 (.seq (.seq c105k20 c105s19) c105s13):=ur
@[simp] theorem uc105k22:X0 F cx k l rows low r 20 c105k22↔bnd (Ret F 107 [lk l 1] rows) fun q0=>Y0 F cx k r q0.2.1 (AC low q0.2.2) 20 ([(6,q0.1),(10,q0.1),(9,lk l 1)]++kp l Cw):=rg
@[simp] theorem uc105s23:U c105s23 (.seq c105k22 c105s21):=ur
@[simp] theorem uc105k24:X0 F cx k l rows low r 20 c105k24↔bnd (Ret F 107 [lk l 0] rows) fun q0=>Y0 F cx k r q0.2.1 (AC low q0.2.2) 20 [(5,q0.1),(8,q0.1),(7,lk l 0),(0,lk l 0),(1,lk l 1)]:=rg
@[simp] theorem uc105s25:U c105s25 (.seq c105k24 c105s23):=ur
@[simp] theorem uc105k26:X0 F cx k l rows low r 20 c105k26↔Y0 F cx k r rows low 20 [(4,(.int .i64 0)),(0,lk l 0),(1,lk l 1)]:=rg
@[simp] theorem uc105b:U c105b (.seq c105k26 c105s25):=ur
theorem i105{x0 x1:AV}(hF:F 105=some c105){q:AV×List Row×Option Nat}(h:Ex F (.fn [.t 4]) [.code c105b] ⟨mk 20 [(0,x0),(1,x1)],rows,rows.length⟩ fun r=>fin rows r.1 r.2.1 r.2.2=q):Ret F 105 [x0,x1] rows=some q:=Av hF h
@[simp] theorem uc107k0:X0 F cx k l rows low r 6 c107k0↔eb rows (.bin .neq (cl l 0) (cl l 0)) fun v0=>Y0 F cx k r rows low 6 [(2,v0),(5,v0),(4,lk l 0),(3,lk l 0),(0,lk l 0)]:=rg
@[simp] theorem uc107s1:U c107s1 (.seq c107k0 .ret):=ur
@[simp] theorem uc107k2:X0 F cx k l rows low r 6 c107k2↔Y0 F cx k r rows low 6 [(2,(.bool false)),(0,lk l 0)]:=rg
@[simp] theorem uc107b:U c107b (.seq c107k2 c107s1):=ur
theorem i107{x0:AV}(hF:F 107=some c107){q:AV×List Row×Option Nat}(h:Ex F (.fn [.t 2]) [.code c107b] ⟨mk 6 [(0,x0)],rows,rows.length⟩ fun r=>fin rows r.1 r.2.1 r.2.2=q):Ret F 107 [x0] rows=some q:=Av hF h
end Go.Abs
namespace Go.Abs
section
variable {rows:List Row}
def nmb(x:Int):Int:=IntKind.i64.wrap ((IntKind.u64.wrap x).tmod 201)-100
theorem SG(x:Int) : -100<=nmb x/\nmb x<=100:=by
 obtain⟨r,h1,h2⟩:=QF (x:=x) (m:=201) (by omega) (by omega);unfold nmb;rw[h1];omega
def Gh(l:List Int)(i:Nat):Int:=if i<l.length then nmb (gI l i)else 0
theorem LB(l:List Int)(i:Nat) : -100<=Gh l i/\Gh l i<=100:=by
 unfold Gh
 split
 ·exact SG _
 ·omega
def Ct(l:List Int)(n:Nat):List Int:=(List.range n).map (Gh l)
@[simp] theorem Zx{l:List Int}{n:Nat}:(Ct l n).length=n:=by simp[Ct]
theorem Nk{l:List Int}{n:Nat}:Ct l (n+1)=Ct l n++[Gh l n]:=by simp[Ct,Aeo]
theorem BN{k:IntKind}{a:List Int}:(Ad k a).length=a.length:=by simp[Ad]
theorem IG{v:AV}{l:List Int}{m:Nat}(h:IsL rows v l)(hm:m<=100){q:AV×List Row×Option Nat}(hq:Wr rows 1 (Ad .i64 (Ct l m)) m=q):∀(d i:Nat) (H:List Row),m-i=d->i<=m->H.all (Row.under 0)=true->
  Lc20l2 F (.fn [.t 4]) v (.int .i64 m) (Ln rows H 1 (Ad .i64 (Ct l i)) i) (.int .i64 i) (rows++BG H (Ad .i64 (Ct l i))) rows.length (fun r=>fin rows r.1 r.2.1 r.2.2=q):=by
 intro d
 induction d with
 |zero=>
  intro i H hd h1 hH;have hi:i=m:=by omega
  subst hi;unfold Lc20l2;simp;rw[TK Bq];exact hq
 |succ d ih=>
  intro i H hd h1 hH;have hi:i<m:=by omega
  obtain⟨H',hH',e⟩:=Id (rows:=rows) (H:=H) (sz:=1) (n:=i) (cs:=Ad .i64 (Ct l i)) (x:=[.int .i64 (Gh l i)]) (low:=rows.length) (b:=8) (by simp[Ad]) rfl (by omega) (by omega) (AcE _) hH Bq (by simp[Row.under,AV.under,AV.ids]);have:=ih (i+1) H' (by omega) (by omega) hH';rw[Nk,<-Ck]at this;have hw:IntKind.i64.wrap ((i:Int)+1)=((i+1:Nat):Int):=wS (by omega);have h':=Al h (BG H (Ad .i64 (Ct l i)));unfold Lc20l2
  by_cases hl:i<l.length
  ·have e1:Gh l i=nmb (gI l i):=by unfold Gh;rw[if_pos hl]
   have hb:=SG (gI l i);have hw2:IntKind.i64.wrap (IntKind.i64.wrap ((IntKind.u64.wrap (gI l i)).tmod 201)-100)=nmb (gI l i):=by
    have:IntKind.i64.wrap ((IntKind.u64.wrap (gI l i)).tmod 201)-100=nmb (gI l i):=rfl;rw[this,AM (by omega) (by omega)]
   rw[e1]at e this;simp (disch:=first|omega|(simp;done)|fail) [hi,Dn h',Eg h',Ca h',hl,hw2,Ap,splice,e,hw];simpa[Ad]using this
  ·have e1:Gh l i=0:=by unfold Gh;rw[if_neg hl]
   rw[e1]at e this;simp (disch:=first|omega|(simp;done)|fail) [hi,Dn h',hl,Ap,splice,e,hw];simpa[Ad]using this
theorem E8{v:AV}{l:List Int}{m:Nat}(h:IsL rows v l)(hm:m<=100):Ret F 20 [v,.int .i64 m] rows=some (Wr rows 1 (Ad .i64 (Ct l m)) m):=by
 refine i20 F20 ?_;have:=IG h hm rfl m 0 [] (by omega) (by omega) rfl;simp[Ct]at this ⊢;simpa[Ct,Ad]using this
end
end Go.Abs