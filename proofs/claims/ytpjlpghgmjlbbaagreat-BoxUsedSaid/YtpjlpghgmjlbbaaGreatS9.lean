/- The functions and the law, part 9. -/
import Derived.Test.YtpjlpghgmjlbbaaGreatProg
import Derived.Test.YtpjlpghgmjlbbaaGreatZ6
import Derived.Test.YtpjlpghgmjlbbaaGreatS8
set_option linter.constructorNameAsVariable false
set_option linter.unusedVariables false
set_option linter.unusedSimpArgs false
set_option linter.unusedSectionVars false
set_option maxRecDepth 100000
namespace Go.Abs
open Go Go.Proofs
def Ctr.w (C:Ctr) (M:CtrM):Ctr:=⟨ "",C.as,C.rs,C.F,M::C.mus,C.its⟩
abbrev Ti:Ty:=.i .i64
abbrev Tj:Ty:=.sl (.pr Ti (.pr (.i .u8) Ti))
abbrev Tk:Ty:=.sl Ti
abbrev Tl:Ty:=.pr Ti (.i .u8)
abbrev Tm:Ty:=.pr Ti (.pr (.i .u8) Ti)
def kbm:Ctr:=⟨ "",[],[],λ_=>none,[],[]⟩
theorem kay {g:FuncId}:Good Tryz.prog g kbm:=good_dm
def kiP:Ctr:=⟨ "",[Ti,(.i .u8),Ti],[Tm],λx=>kbP x.1 x.2.1 x.2.2,[],[]⟩
theorem kju:Good Tryz.prog 43 kiP:=
 kad Tryz.func43 (by kernel_rfl) (An:=[]) [] (.nil) (λx=>by kernel_rfl)
def keX:Ctr:=⟨ "",[Ti,Ti,Ti],[.b],λx=>kbW x.1 x.2.1 x.2.2,[],[]⟩
theorem kdp:Good Tryz.prog 66 keX:=
 kad Tryz.func66 (by kernel_rfl) (An:=[]) [] (.nil) (λx=>by kernel_rfl)
def kmZ:Ctr:=⟨ "",[Tm],[.b],λx=>kjb x,[],[]⟩
theorem kqA:Good Tryz.prog 93 kmZ:=
 kad Tryz.func93 (by kernel_rfl) (An:=[]) [(66,keX)] (.cons kdp <| .nil) (λx=>by kernel_rfl)
def kfN:Ctr:=⟨ "",[Tl],[.b],λx=>kcs x,[],[]⟩
theorem kgu:Good Tryz.prog 96 kfN:=
 kad Tryz.func96 (by kernel_rfl) (An:=[]) [(66,keX)] (.cons kdp <| .nil) (λx=>by kernel_rfl)
def kje:Ctr:=⟨ "",[Ti],[.b],λx=>keH x,[],[]⟩
theorem kkD:Good Tryz.prog 111 kje:=
 kad Tryz.func111 (by kernel_rfl) (An:=[]) [] (.nil) (λx=>by kernel_rfl)
def kdN:Ctr:=⟨ "",[Ti,Ti],[Ti],λx=>kbo x.1 x.2,[],[]⟩
theorem kdP:Good Tryz.prog 78 kdN:=
 kad Tryz.func78 (by kernel_rfl) (An:=[]) [(111,kje)] (.cons kkD <| .nil) (λx=>by kernel_rfl)
def kkS:Ctr:=⟨ "",[(.i .u8)],[.b],λx=>keH x,[],[]⟩
theorem knV:Good Tryz.prog 125 kkS:=
 kad Tryz.func125 (by kernel_rfl) (An:=[]) [] (.nil) (λx=>by kernel_rfl)
def kjF:Ctr:=⟨ "",[(.i .u8),(.i .u8)],[Ti],λx=>kbo x.1 x.2,[],[]⟩
theorem kmP:Good Tryz.prog 113 kjF:=
 kad Tryz.func113 (by kernel_rfl) (An:=[]) [(125,kkS)] (.cons knV <| .nil) (λx=>by kernel_rfl)
def kiW:Ctr:=⟨ "",[Tk],[Ti],λx=>kfU x,[],[]⟩
theorem kiQ:Good Tryz.prog 77 kiW:=
 kad Tryz.func77 (by kernel_rfl) (An:=[(0,⟨⟨[(8,.c Ti)],[]⟩,⟨[],[]⟩,[7,6,3],[],0,true,""⟩)]) [] (.nil) (λx=>by kernel_rfl)
def khT:Ctr:=⟨ "",[Tl,Tl],[Ti],λx=>kfH x.1 x.2,[],[]⟩
theorem khj:Good Tryz.prog 103 khT:=
 kad Tryz.func103 (by kernel_rfl) (An:=[]) [(77,kiW),(113,kjF),(78,kdN)] (.cons kiQ <| .cons kmP <| .cons kdP <| .nil) (λx=>by kernel_rfl)
def kie:Ctr:=⟨ "",[Tj,Ti,(.fn 1 Tm Tl)],[.b],λx=>kdS x.1 x.2.1 x.2.2,[],[]⟩
theorem klf:Good Tryz.prog 94 kie:=
 kad Tryz.func94 (by kernel_rfl) (An:=[(0,⟨⟨[(11,.c Ti)],[]⟩,⟨[],[]⟩,[10,9,2,0,1],[],0,true,""⟩)]) [(103,khT),(96,kfN)] (.cons khj <| .cons kgu <| .nil) (λx=>by kernel_rfl)
def kfA:Ctr:=⟨ "",[Tm],[Tl],λx=>kbC x,[],[]⟩
theorem keM:Good Tryz.prog 71 kfA:=
 kad Tryz.func71 (by kernel_rfl) (An:=[]) [] (.nil) (λx=>by kernel_rfl)
def kcM:Ctr:=⟨ "",[Tj,(.fn 1 Tm .b)],[Ti],λx=>kbM x.1 x.2,[],[]⟩
theorem kfF:Good Tryz.prog 99 kcM:=
 kad Tryz.func99 (by kernel_rfl) (An:=[(0,⟨⟨[(8,.c Ti)],[]⟩,⟨[],[]⟩,[7,1,0],[],0,true,""⟩)]) [] (.nil) (λx=>by kernel_rfl)
def kbp:Ctr:=⟨ "",[Tj,(.fn 1 Tm .b)],[.b],λx=>kaB x.1 x.2,[],[]⟩
theorem kcc:Good Tryz.prog 54 kbp:=
 kad Tryz.func54 (by kernel_rfl) (An:=[]) [(99,kcM)] (.cons kfF <| .nil) (λx=>by kernel_rfl)
def kmD:Ctr:=⟨ "",[Tj],[Ti],λx=>kkq x,[],[]⟩
theorem knm:Good Tryz.prog 47 kmD:=
 kad Tryz.func47 (by kernel_rfl) (An:=[]) [(54,kbp),(71,kfA),(94,kie),(93,kmZ)] (.cons kcc <| .cons keM <| .cons klf <| .cons kqA <| .nil) (λx=>by kernel_rfl)
def kdq:Ctr:=⟨ "",[(.sl Tj)],[Ti],λx=>kda x,[],[]⟩
theorem kcQ:Good Tryz.prog 50 kdq:=
 kad Tryz.func50 (by kernel_rfl) (An:=[(0,⟨⟨[(8,.c Ti)],[]⟩,⟨[],[]⟩,[7,6],[],0,true,""⟩)]) [(47,kmD)] (.cons knm <| .nil) (λx=>by kernel_rfl)
def kor:Ctr:=⟨ "",[Tj,Tj],[Ti],λx=>kqD x.1 x.2,[],[]⟩
theorem krw:Good Tryz.prog 98 kor:=
 kad Tryz.func98 (by kernel_rfl) (An:=[]) [(71,kfA),(103,khT)] (.cons keM <| .cons khj <| .nil) (λx=>by kernel_rfl)
def klH:Ctr:=⟨ "",[Tj,Tj,(.fn 2 (.pr Ti Ti) Ti)],[Tj],λx=>knP x.1 x.2.1 x.2.2,[],[]⟩
theorem kmj:Good Tryz.prog 51 klH:=
 kad Tryz.func51 (by kernel_rfl) (An:=[(0,⟨⟨[(0,.c Tj),(1,.c Tj),(7,.mw 1)],[(1,.sl 50 Tm)]⟩,⟨[(7,.mw 2)],[(2,.sl 50 Tm)]⟩,[2],[],3,false,""⟩),(10,⟨⟨[],[]⟩,⟨[(19,.c .b)],[]⟩,[0,1,7],[1],2,false,""⟩),(129,⟨⟨[(8,.ptr 2 0)],[(2,.bx 50 [.c Ti,.c (.i .u8),.c Ti])]⟩,⟨[(9,.c Ti),(10,.c Ti),(8,.ptr 3 0),(0,.c Tj),(1,.c Tj)],[(3,.bx 50 [.c Ti,.c (.i .u8),.c Ti])]⟩,[11,7],[1],4,false,""⟩),(181,⟨⟨[],[]⟩,⟨[(10,.c Ti),(1,.c Tj)],[]⟩,[9,8,0],[2],3,false,""⟩)]) [(98,kor)] (.cons krw <| .nil) (λx=>by kernel_rfl)
def kpR:Ctr:=⟨ "",[Ti,Ti],[Ti],λx=>ksS x.1 x.2,[],[]⟩
theorem ksC:Good Tryz.prog 52 kpR:=
 kad Tryz.func52 (by kernel_rfl) (An:=[]) [] (.nil) (λx=>by kernel_rfl)
def kuy:Ctr:=⟨ "",[Tj,Tj],[Tj,Ti],λx=>kyL x.1 x.2,[],[]⟩
theorem kvK:Good Tryz.prog 15 kuy:=
 kad Tryz.func15 (by kernel_rfl) (An:=[]) [(52,kpR),(51,klH),(50,kdq),(47,kmD)] (.cons ksC <| .cons kmj <| .cons kcQ <| .cons knm <| .nil) (λx=>by kernel_rfl)
def knr:Ctr:=⟨ "",[],[Tj],λx=>law08_needed,[],[]⟩
theorem kqn:Good Tryz.prog 44 knr:=
 kad Tryz.func44 (by kernel_rfl) (An:=[]) [(43,kiP)] (.cons kju <| .nil) (λx=>by kernel_rfl)
def kpP:Ctr:=⟨ "",[],[(.sl tSwap)],λx=>law08_swap,[],[]⟩
theorem ksr:Good Tryz.prog 45 kpP:=
 kad Tryz.func45 (by kernel_rfl) (An:=[]) [] (.nil) (λx=>by kernel_rfl)
def kjD:Ctr:=⟨ "",[tSwap],[.b],λx=>kdB x,[],[]⟩
theorem kmO:Good Tryz.prog 95 kjD:=
 kad Tryz.func95 (by kernel_rfl) (An:=[(6,⟨⟨[],[]⟩,⟨[(3,.ptr 1 0),(4,.ptr 2 0)],[(1,.bx 115 [.c Ti,.c (.i .u8)]),(2,.bx 115 [.c Ti,.c (.i .u8)])]⟩,[1],[0],3,false,""⟩)]) [(96,kfN)] (.cons kgu <| .nil) (λx=>by kernel_rfl)
def kcP:Ctr:=⟨ "",[(.sl tSwap),(.fn 1 tSwap .b)],[Ti],λx=>kbI x.1 x.2,[],[]⟩
theorem kfE:Good Tryz.prog 121 kcP:=
 kad Tryz.func121 (by kernel_rfl) (An:=[(0,⟨⟨[(8,.c Ti)],[]⟩,⟨[],[]⟩,[7,1,0],[],0,true,""⟩)]) [] (.nil) (λx=>by kernel_rfl)
def kcw:Ctr:=⟨ "",[(.sl tSwap),(.fn 1 tSwap .b)],[.b],λx=>kbt x.1 x.2,[],[]⟩
theorem kfb:Good Tryz.prog 97 kcw:=
 kad Tryz.func97 (by kernel_rfl) (An:=[]) [(121,kcP)] (.cons kfE <| .nil) (λx=>by kernel_rfl)
def kiu:Ctr:=⟨ "",[(.sl tSwap)],[Ti],λx=>kef x,[],[]⟩
theorem kjB:Good Tryz.prog 48 kiu:=
 kad Tryz.func48 (by kernel_rfl) (An:=[]) [(97,kcw),(95,kjD)] (.cons kfb <| .cons kmO <| .nil) (λx=>by kernel_rfl)
def kdG:Ctr:=⟨ "",[(.sl tSwap),tSwap],[Ti],λx=>kcl x.1 x.2,[],[]⟩
theorem kgG:Good Tryz.prog 132 kdG:=
 kad Tryz.func132 (by kernel_rfl) (An:=[(0,⟨⟨[(8,.c Ti)],[]⟩,⟨[],[]⟩,[7,3,0],[0],1,true,""⟩)]) [] (.nil) (λx=>by kernel_rfl)
def kcZ:Ctr:=⟨ "",[(.sl tSwap),tSwap],[.b],λx=>kbO x.1 x.2,[],[]⟩
theorem kfV:Good Tryz.prog 122 kcZ:=
 kad Tryz.func122 (by kernel_rfl) (An:=[]) [(132,kdG)] (.cons kgG <| .nil) (λx=>by kernel_rfl)
def koR:Ctr:=⟨ "",[(.sl tSwap),Tl,Tl],[.b],λx=>klt x.1 x.2.1 x.2.2,[],[]⟩
theorem kpG:Good Tryz.prog 100 koR:=
 kad Tryz.func100 (by kernel_rfl) (An:=[]) [(122,kcZ)] (.cons kfV <| .nil) (λx=>by kernel_rfl)
def keC (k:Nat):CtrM:=⟨ "",[some (.i .i64),none,none,none],⟨[(1,.ptr 0 0),(2,.ptr 2 0),(3,.ptr 3 0)],[(0,.bx 103 [.mw 1]),(1,.sl 4 .b),(2,.bx 100 [.c (.op tFlow)]),(3,.bx 155 [.fn 102 [.ptr 0 0,.ptr 2 0,.ptr 3 0]])]⟩,4,⟨[(1,.ptr 0 0),(2,.ptr 2 0),(3,.ptr 3 0)],[(0,.bx 103 [.mw 1]),(1,.sl 4 .b),(2,.bx 100 [.c (.op tFlow)]),(3,.bx 155 [.fn 102 [.ptr 0 0,.ptr 2 0,.ptr 3 0]])]⟩,4,0,λx=>kbe k x.1 x.2.1 x.2.2,false⟩
theorem kha:∀ k,(keC k).ok=true/\GoodM Tryz.prog 102 (keC k)
 | 0=>kjf (by kernel_rfl) (λx=>rfl)
 | k+1=>kap Tryz.func102 (by kernel_rfl) (An:=[(0,⟨⟨[(23,.c (.i .i64))],[(2,.bx 100 [.c (.op tFlow)]),(3,.bx 155 [.fn 102 [.ptr 0 0,.ptr 2 0,.ptr 3 0]]),(0,.bx 103 [.mw 1]),(1,.sl 4 .b)]⟩,⟨[],[(2,.bx 100 [.c (.op tFlow)]),(3,.bx 155 [.fn 102 [.ptr 0 0,.ptr 2 0,.ptr 3 0]]),(0,.bx 103 [.mw 1]),(1,.sl 4 .b)]⟩,[22,21],[],8,false,""⟩),(8,⟨⟨[(32,.c (.i .i64))],[(2,.bx 100 [.c (.op tFlow)]),(3,.bx 155 [.fn 102 [.ptr 0 0,.ptr 2 0,.ptr 3 0]]),(0,.bx 103 [.mw 1]),(1,.sl 4 .b)]⟩,⟨[],[(2,.bx 100 [.c (.op tFlow)]),(3,.bx 155 [.fn 102 [.ptr 0 0,.ptr 2 0,.ptr 3 0]]),(0,.bx 103 [.mw 1]),(1,.sl 4 .b)]⟩,[31,6,23],[],8,false,""⟩)]) ((102,⟨ "",[],[],λ_=>none,[keC k],[]⟩)::[]) (.cons (good_dm.more (kha k)) <| .nil) (λx=>by kernel_rfl)
def box_flow_short_c1_m0_M:CtrM:=⟨ "",[some Ti,none,none,none],⟨[(1,.ptr 0 0),(2,.ptr 2 0),(3,.ptr 3 0)],[(0,.bx 103 [.mw 1]),(1,.sl 4 .b),(2,.bx 100 [.c (.op tFlow)]),(3,.bx 155 [.fn 102 [.ptr 0 0,.ptr 2 0,.ptr 3 0]])]⟩,4,⟨[(1,.ptr 0 0),(2,.ptr 2 0),(3,.ptr 3 0)],[(0,.bx 103 [.mw 1]),(1,.sl 4 .b),(2,.bx 100 [.c (.op tFlow)]),(3,.bx 155 [.fn 102 [.ptr 0 0,.ptr 2 0,.ptr 3 0]])]⟩,4,0,λx=>kfO x.1 x.2.1 x.2.2,false⟩
theorem kla:box_flow_short_c1_m0_M.ok=true/\GoodM Tryz.prog 102 box_flow_short_c1_m0_M:=kha 1000000
theorem box_flow_short_c1_C_ok:Good Tryz.prog 102 kbm:=good_dm
def kiV:Ctr:=kbm.w box_flow_short_c1_m0_M
theorem kmf:Good Tryz.prog 102 kiV:=(box_flow_short_c1_C_ok.more kla)
def box_begin_m0g0_M:CtrM:=⟨ "",[some Tj,some Tj,some (.sl tSwap)],⟨[],[]⟩,0,⟨[(1000000,.sc (.pointer none)),(1000001,.c Ti)],[]⟩,0,2,λx=>kcY x.1 x.2.1 x.2.2,true⟩
theorem koF:box_begin_m0g0_M.ok=true/\GoodM Tryz.prog 58 box_begin_m0g0_M:=
 kap Tryz.func58 (by kernel_rfl) (An:=[(89,⟨⟨[],[]⟩,⟨[(8,.c Ti)],[]⟩,[2,1,0],[],1,false,""⟩),(0,⟨⟨[(33,.c Ti),(9,.ptr 5 0)],[(5,.bx 134 [.c Tj,.mw 2,.fw 3,.mw 4]),(4,.sl 3 Ti)]⟩,⟨[(9,.ptr 6 0)],[(6,.bx 134 [.c Tj,.mw 2,.fw 3,.mw 7]),(7,.sl 3 Ti)]⟩,[32,31,1,0,2],[2,3],8,false,""⟩),(8,⟨⟨[(51,.c Ti),(9,.ptr 6 0)],[(6,.bx 134 [.c Tj,.mw 2,.fw 3,.mw 7]),(2,.sl 31 Tk),(3,.fm 31 Tk 0 3 Ti)]⟩,⟨[(9,.ptr 8 0)],[(8,.bx 134 [.c Tj,.mw 9,.fw 10,.mw 7]),(9,.sl 31 Tk),(10,.fm 31 Tk 0 3 Ti)]⟩,[50,49,0,2],[7],11,false,""⟩),(16,⟨⟨[(57,.c Ti),(14,.mw 9)],[(9,.sl 3 Ti)]⟩,⟨[(14,.mw 10)],[(10,.sl 3 Ti)]⟩,[56,55,13,9,51],[8,6,2,3],11,false,""⟩)]) [(4134001,kbm),(7000089,kbm),(6000083,kbm),(6000029,kbm),(100,koR),(48,kiu),(50,kdq),(71,kfA)] (.cons kay <| .cons kay <| .cons kay <| .cons kay <| .cons kpG <| .cons kjB <| .cons kcQ <| .cons keM <| .nil) (λx=>by kernel_rfl)
def box_begin_m0g1_M:CtrM:=⟨ "",[some Tj,some Tj,some (.sl tSwap)],⟨[],[]⟩,0,⟨[(1000000,.ptr 0 0),(1000001,.c Ti)],[(0,.bx 134 [.c Tj,.mw 1,.fw 2,.mw 3]),(1,.sl 31 Tk),(2,.fm 31 Tk 0 3 Ti),(3,.sl 3 Ti)]⟩,4,2,λx=>kcT x.1 x.2.1 x.2.2,true⟩
theorem koC:box_begin_m0g1_M.ok=true/\GoodM Tryz.prog 58 box_begin_m0g1_M:=
 kap Tryz.func58 (by kernel_rfl) (An:=[(89,⟨⟨[],[]⟩,⟨[(8,.c Ti)],[]⟩,[2,1,0],[],1,false,""⟩),(0,⟨⟨[(33,.c Ti),(9,.ptr 5 0)],[(5,.bx 134 [.c Tj,.mw 2,.fw 3,.mw 4]),(4,.sl 3 Ti)]⟩,⟨[(9,.ptr 6 0)],[(6,.bx 134 [.c Tj,.mw 2,.fw 3,.mw 7]),(7,.sl 3 Ti)]⟩,[32,31,1,0,2],[2,3],8,false,""⟩),(8,⟨⟨[(51,.c Ti),(9,.ptr 6 0)],[(6,.bx 134 [.c Tj,.mw 2,.fw 3,.mw 7]),(2,.sl 31 Tk),(3,.fm 31 Tk 0 3 Ti)]⟩,⟨[(9,.ptr 8 0)],[(8,.bx 134 [.c Tj,.mw 9,.fw 10,.mw 7]),(9,.sl 31 Tk),(10,.fm 31 Tk 0 3 Ti)]⟩,[50,49,0,2],[7],11,false,""⟩),(16,⟨⟨[(57,.c Ti),(14,.mw 9)],[(9,.sl 3 Ti)]⟩,⟨[(14,.mw 10)],[(10,.sl 3 Ti)]⟩,[56,55,13,9,51],[8,6,2,3],11,false,""⟩)]) [(4134001,kbm),(7000089,kbm),(6000083,kbm),(6000029,kbm),(100,koR),(48,kiu),(50,kdq),(71,kfA)] (.cons kay <| .cons kay <| .cons kay <| .cons kay <| .cons kpG <| .cons kjB <| .cons kcQ <| .cons keM <| .nil) (λx=>by kernel_rfl)
theorem box_begin_B1_ok:Good Tryz.prog 58 kbm:=good_dm
def kgO:Ctr:=⟨ "",kbm.as,kbm.rs,kbm.F,box_begin_m0g0_M::box_begin_m0g1_M::kbm.mus,kbm.its⟩
theorem kgy:Good Tryz.prog 58 kgO:=((box_begin_B1_ok.more koC).more koF)
def box_flow_short_m0_M:CtrM:=⟨ "",[some (.op tFlow),some (.sl .b)],⟨[],[]⟩,0,⟨[(1000000,.mw 0)],[(0,.sl 3 Ti)]⟩,1,1,λx=>kdy x.1 x.2,false⟩
theorem kmG:box_flow_short_m0_M.ok=true/\GoodM Tryz.prog 60 box_flow_short_m0_M:=
 kap Tryz.func60 (by kernel_rfl) (An:=[(0,⟨⟨[(18,.c Ti),(5,.ptr 2 0),(6,.ptr 5 0)],[(2,.bx 155 [.fn 102 [.ptr 5 0,.ptr 0 0,.ptr 2 0]]),(5,.bx 103 [.mw 3]),(3,.sl 4 .b),(0,.bx 100 [.c (.op tFlow)])]⟩,⟨[(6,.ptr 6 0)],[(6,.bx 103 [.mw 7]),(7,.sl 4 .b)]⟩,[17,16],[],8,false,""⟩),(8,⟨⟨[(30,.c Ti),(9,.mw 8)],[(8,.sl 3 Ti)]⟩,⟨[(9,.mw 9)],[(9,.sl 3 Ti)]⟩,[29,28],[7],10,false,""⟩)]) [(102,kiV)] (.cons kmf <| .nil) (λx=>by kernel_rfl)
theorem box_flow_short_B2_ok:Good Tryz.prog 60 kbm:=good_dm
def kkX:Ctr:=kbm.w box_flow_short_m0_M
theorem koa:Good Tryz.prog 60 kkX:=(box_flow_short_B2_ok.more kmG)
def kfe (k:Nat):CtrM:=⟨ "",[some (.i .i64),some (.i .i64),none,none,none],⟨[(2,.ptr 0 0),(3,.ptr 5 0),(4,.ptr 7 0)],[(0,.bx 100 [.ptr 1 0]),(1,.bx 134 [.c (.sl (.pr (.i .i64) (.pr (.i .u8) (.i .i64)))),.mw 2,.fw 3,.mw 4]),(2,.sl 31 (.sl (.i .i64))),(3,.fm 31 (.sl (.i .i64)) 0 3 (.i .i64)),(4,.sl 3 (.i .i64)),(5,.bx 103 [.mw 6]),(6,.sl 4 .b),(7,.bx 96 [.fn 101 [.ptr 0 0,.ptr 5 0,.ptr 7 0]])]⟩,8,⟨[(2,.ptr 0 0),(3,.ptr 5 0),(4,.ptr 7 0),(1000000,.c (.i .i64))],[(0,.bx 100 [.ptr 1 0]),(1,.bx 134 [.c (.sl (.pr (.i .i64) (.pr (.i .u8) (.i .i64)))),.mw 2,.fw 3,.mw 4]),(2,.sl 31 (.sl (.i .i64))),(3,.fm 31 (.sl (.i .i64)) 0 3 (.i .i64)),(4,.sl 3 (.i .i64)),(5,.bx 103 [.mw 6]),(6,.sl 4 .b),(7,.bx 96 [.fn 101 [.ptr 0 0,.ptr 5 0,.ptr 7 0]])]⟩,8,1,λx=>kbn k x.1 x.2.1 x.2.2.1 x.2.2.2.1 x.2.2.2.2.1 x.2.2.2.2.2.1 x.2.2.2.2.2.2,false⟩
theorem khs:∀ k,(kfe k).ok=true/\GoodM Tryz.prog 101 (kfe k)
 | 0=>kjf (by kernel_rfl) (λx=>rfl)
 | k+1=>kap Tryz.func101 (by kernel_rfl) (An:=[(0,⟨⟨[(21,.c (.i .i64))],[(5,.bx 103 [.mw 6]),(6,.sl 4 .b),(0,.bx 100 [.ptr 1 0]),(1,.bx 134 [.c (.sl (.pr (.i .i64) (.pr (.i .u8) (.i .i64)))),.mw 2,.fw 3,.mw 4]),(2,.sl 31 (.sl (.i .i64))),(3,.fm 31 (.sl (.i .i64)) 0 3 (.i .i64)),(4,.sl 3 (.i .i64)),(7,.bx 96 [.fn 101 [.ptr 0 0,.ptr 5 0,.ptr 7 0]])]⟩,⟨[],[(6,.sl 4 .b),(4,.sl 3 (.i .i64)),(5,.bx 103 [.mw 6]),(3,.fm 31 (.sl (.i .i64)) 0 3 (.i .i64)),(0,.bx 100 [.ptr 1 0]),(1,.bx 134 [.c (.sl (.pr (.i .i64) (.pr (.i .u8) (.i .i64)))),.mw 2,.fw 3,.mw 4]),(2,.sl 31 (.sl (.i .i64))),(7,.bx 96 [.fn 101 [.ptr 0 0,.ptr 5 0,.ptr 7 0]])]⟩,[20,19,1,0],[],16,true,""⟩),(8,⟨⟨[(72,.c (.i .i64))],[(0,.bx 100 [.ptr 1 0]),(1,.bx 134 [.c (.sl (.pr (.i .i64) (.pr (.i .u8) (.i .i64)))),.mw 2,.fw 3,.mw 4]),(2,.sl 31 (.sl (.i .i64))),(3,.fm 31 (.sl (.i .i64)) 0 3 (.i .i64)),(4,.sl 3 (.i .i64)),(7,.bx 96 [.fn 101 [.ptr 0 0,.ptr 5 0,.ptr 7 0]]),(5,.bx 103 [.mw 6]),(6,.sl 4 .b)]⟩,⟨[],[(0,.bx 100 [.ptr 1 0]),(1,.bx 134 [.c (.sl (.pr (.i .i64) (.pr (.i .u8) (.i .i64)))),.mw 2,.fw 3,.mw 4]),(2,.sl 31 (.sl (.i .i64))),(3,.fm 31 (.sl (.i .i64)) 0 3 (.i .i64)),(4,.sl 3 (.i .i64)),(7,.bx 96 [.fn 101 [.ptr 0 0,.ptr 5 0,.ptr 7 0]]),(5,.bx 103 [.mw 6]),(6,.sl 4 .b)]⟩,[71,9,21],[],16,true,""⟩)]) ((101,⟨ "",[],[],λ_=>none,[kfe k],[]⟩)::[]) (.cons (good_dm.more (khs k)) <| .nil) (λx=>by kernel_rfl)
def box_flow_give_c1_m0_M:CtrM:=⟨ "",[some Ti,some Ti,none,none,none],⟨[(2,.ptr 0 0),(3,.ptr 5 0),(4,.ptr 7 0)],[(0,.bx 100 [.ptr 1 0]),(1,.bx 134 [.c Tj,.mw 2,.fw 3,.mw 4]),(2,.sl 31 Tk),(3,.fm 31 Tk 0 3 Ti),(4,.sl 3 Ti),(5,.bx 103 [.mw 6]),(6,.sl 4 .b),(7,.bx 96 [.fn 101 [.ptr 0 0,.ptr 5 0,.ptr 7 0]])]⟩,8,⟨[(2,.ptr 0 0),(3,.ptr 5 0),(4,.ptr 7 0),(1000000,.c Ti)],[(0,.bx 100 [.ptr 1 0]),(1,.bx 134 [.c Tj,.mw 2,.fw 3,.mw 4]),(2,.sl 31 Tk),(3,.fm 31 Tk 0 3 Ti),(4,.sl 3 Ti),(5,.bx 103 [.mw 6]),(6,.sl 4 .b),(7,.bx 96 [.fn 101 [.ptr 0 0,.ptr 5 0,.ptr 7 0]])]⟩,8,1,λx=>kgw x.1 x.2.1 x.2.2.1 x.2.2.2.1 x.2.2.2.2.1 x.2.2.2.2.2.1 x.2.2.2.2.2.2,false⟩
theorem klN:box_flow_give_c1_m0_M.ok=true/\GoodM Tryz.prog 101 box_flow_give_c1_m0_M:=khs 1000000
theorem box_flow_give_c1_C_ok:Good Tryz.prog 101 kbm:=good_dm
def kjC:Ctr:=kbm.w box_flow_give_c1_m0_M
theorem kmJ:Good Tryz.prog 101 kjC:=(box_flow_give_c1_C_ok.more klN)
def box_flow_give_m0_M:CtrM:=⟨ "",[none,some Ti,some Ti],⟨[(0,.ptr 0 0)],[(0,.bx 134 [.c Tj,.mw 1,.fw 2,.mw 3]),(1,.sl 31 Tk),(2,.fm 31 Tk 0 3 Ti),(3,.sl 3 Ti)]⟩,4,⟨[(0,.ptr 0 0),(1000000,.c Ti)],[(0,.bx 134 [.c Tj,.mw 1,.fw 2,.mw 3]),(1,.sl 31 Tk),(2,.fm 31 Tk 0 3 Ti),(3,.sl 3 Ti)]⟩,4,1,λx=>kcS x.1 x.2.1 x.2.2.1 x.2.2.2.1 x.2.2.2.2.1 x.2.2.2.2.2,false⟩
theorem knq:box_flow_give_m0_M.ok=true/\GoodM Tryz.prog 59 box_flow_give_m0_M:=
 kap Tryz.func59 (by kernel_rfl) (An:=[(0,⟨⟨[(9,.c Ti),(3,.ptr 4 0),(7,.ptr 6 0),(8,.ptr 7 0)],[(4,.bx 100 [.ptr 0 0]),(0,.bx 134 [.c Tj,.mw 1,.fw 2,.mw 3]),(1,.sl 31 Tk),(2,.fm 31 Tk 0 3 Ti),(3,.sl 3 Ti),(6,.bx 103 [.mw 5]),(5,.sl 4 .b),(7,.bx 96 [.fn 101 [.ptr 4 0,.ptr 6 0,.ptr 7 0]])]⟩,⟨[(9,.c Ti)],[(0,.bx 134 [.c Tj,.mw 1,.fw 2,.mw 3]),(1,.sl 31 Tk),(2,.fm 31 Tk 0 3 Ti),(3,.sl 3 Ti)]⟩,[2,1],[],12,false,""⟩)]) [(101,kjC)] (.cons kmJ <| .nil) (λx=>by kernel_rfl)
theorem box_flow_give_C_ok:Good Tryz.prog 59 kbm:=good_dm
def kfW:Ctr:=kbm.w box_flow_give_m0_M
theorem kgq:Good Tryz.prog 59 kfW:=(box_flow_give_C_ok.more knq)
def knQ:Ctr:=⟨ "",[Tj,Tj,(.sl tSwap)],[kyt,Ti],λx=>klw x.1 x.2.1 x.2.2,[],[]⟩
theorem kol:Good Tryz.prog 19 knQ:=
 kad Tryz.func19 (by kernel_rfl) (An:=[(0,⟨⟨[(31,.c Ti),(10,.c Ti)],[]⟩,⟨[(10,.c Ti)],[]⟩,[30,29,8,11,6],[2,1,0],3,false,""⟩),(0,⟨⟨[(31,.c Ti),(8,.ptr 2 0),(10,.c Ti),(11,.mw 6)],[(2,.bx 134 [.c Tj,.mw 3,.fw 4,.mw 5]),(3,.sl 31 Tk),(4,.fm 31 Tk 0 3 Ti),(5,.sl 3 Ti),(6,.sl 4 .b)]⟩,⟨[(10,.c Ti),(8,.ptr 7 0),(11,.mw 11)],[(7,.bx 134 [.c Tj,.mw 8,.fw 9,.mw 10]),(8,.sl 31 Tk),(9,.fm 31 Tk 0 3 Ti),(10,.sl 3 Ti),(11,.sl 4 .b)]⟩,[30,29,6],[1,0],12,false,""⟩)]) [(60,kkX),(58,kgO),(59,kfW)] (.cons koa <| .cons kgy <| .cons kgq <| .nil) (λx=>by kernel_rfl)
def kps:Ctr:=⟨ "",[Tm],[.b],λx=>kjr x,[],[]⟩
theorem ksw:Good Tryz.prog 65 kps:=
 kad Tryz.func65 (by kernel_rfl) (An:=[]) [(66,keX)] (.cons kdp <| .nil) (λx=>by kernel_rfl)
theorem kkK:Good Tryz.prog 67 kie:=
 kad Tryz.func67 (by kernel_rfl) (An:=[(0,⟨⟨[(11,.c Ti)],[]⟩,⟨[],[]⟩,[10,9,2,0,1],[],0,true,""⟩)]) [(103,khT),(96,kfN)] (.cons khj <| .cons kgu <| .nil) (λx=>by kernel_rfl)
theorem krK:Good Tryz.prog 68 kfA:=
 kad Tryz.func68 (by kernel_rfl) (An:=[]) [] (.nil) (λx=>by kernel_rfl)
theorem kfq:Good Tryz.prog 104 kcM:=
 kad Tryz.func104 (by kernel_rfl) (An:=[(0,⟨⟨[(8,.c Ti)],[]⟩,⟨[],[]⟩,[7,1,0],[],0,true,""⟩)]) [] (.nil) (λx=>by kernel_rfl)
theorem keA:Good Tryz.prog 69 kbp:=
 kad Tryz.func69 (by kernel_rfl) (An:=[]) [(104,kcM)] (.cons kfq <| .nil) (λx=>by kernel_rfl)
def kpV:Ctr:=⟨ "",[tLine,tLine],[Ti],λx=>kdT x.1 x.2,[],[]⟩
theorem ksW:Good Tryz.prog 73 kpV:=
 kad Tryz.func73 (by kernel_rfl) (An:=[]) [] (.nil) (λx=>by kernel_rfl)
def slices_insertionSortCmpFunc_box_line_m0_M:CtrM:=⟨ "",[none,some Ti,some Ti,some (.fn 2 (.pr tLine tLine) Ti)],⟨[(0,.mw 0)],[(0,.sl 121 tLine)]⟩,1,⟨[(0,.mw 0)],[(0,.sl 121 tLine)]⟩,1,0,λx=>kaA x.1 x.2.1 x.2.2.1 x.2.2.2,false⟩
theorem kff:slices_insertionSortCmpFunc_box_line_m0_M.ok=true/\GoodM Tryz.prog 123 slices_insertionSortCmpFunc_box_line_m0_M:=
 kap Tryz.func123 (by kernel_rfl) (An:=[(0,⟨⟨[(8,.c Ti)],[(0,.sl 121 tLine)]⟩,⟨[],[(0,.sl 121 tLine)]⟩,[2,1,3],[],2,false,""⟩),(8,⟨⟨[(9,.c Ti)],[(0,.sl 121 tLine)]⟩,⟨[],[(0,.sl 121 tLine)]⟩,[8],[],2,false,""⟩)]) [] (.nil) (λx=>by kernel_rfl)
theorem slices_insertionSortCmpFunc_box_line_C_ok:Good Tryz.prog 123 kbm:=good_dm
def kcF:Ctr:=kbm.w slices_insertionSortCmpFunc_box_line_m0_M
theorem kfw:Good Tryz.prog 123 kcF:=(slices_insertionSortCmpFunc_box_line_C_ok.more kff)
def slices_swapRangeCmpFunc_box_line_m0_M:CtrM:=⟨ "",[none,some Ti,some Ti,some Ti,some (.fn 2 (.pr tLine tLine) Ti)],⟨[(0,.mw 0)],[(0,.sl 121 tLine)]⟩,1,⟨[(0,.mw 0)],[(0,.sl 121 tLine)]⟩,1,0,λx=>kax x.1 x.2.1 x.2.2.1 x.2.2.2.1 x.2.2.2.2,false⟩
theorem kfT:slices_swapRangeCmpFunc_box_line_m0_M.ok=true/\GoodM Tryz.prog 137 slices_swapRangeCmpFunc_box_line_m0_M:=
 kap Tryz.func137 (by kernel_rfl) (An:=[(0,⟨⟨[(10,.c Ti)],[(0,.sl 121 tLine)]⟩,⟨[],[(0,.sl 121 tLine)]⟩,[3,1,2],[],2,false,""⟩)]) [] (.nil) (λx=>by kernel_rfl)
theorem slices_swapRangeCmpFunc_box_line_C_ok:Good Tryz.prog 137 kbm:=good_dm
def kdh:Ctr:=kbm.w slices_swapRangeCmpFunc_box_line_m0_M
theorem kgo:Good Tryz.prog 137 kdh:=(slices_swapRangeCmpFunc_box_line_C_ok.more kfT)
def slices_rotateCmpFunc_box_line_m0_M:CtrM:=⟨ "",[none,some Ti,some Ti,some Ti,some (.fn 2 (.pr tLine tLine) Ti)],⟨[(0,.mw 0)],[(0,.sl 121 tLine)]⟩,1,⟨[(0,.mw 0)],[(0,.sl 121 tLine)]⟩,1,0,λx=>kaQ x.1 x.2.1 x.2.2.1 x.2.2.2.1 x.2.2.2.2,false⟩
theorem kgC:slices_rotateCmpFunc_box_line_m0_M.ok=true/\GoodM Tryz.prog 133 slices_rotateCmpFunc_box_line_m0_M:=
 kap Tryz.func133 (by kernel_rfl) (An:=[(0,⟨⟨[(10,.c Ti),(11,.c Ti)],[(0,.sl 121 tLine)]⟩,⟨[(10,.c Ti)],[(0,.sl 121 tLine)]⟩,[2,4],[],2,false,""⟩)]) [(137,kdh)] (.cons kgo <| .nil) (λx=>by kernel_rfl)
theorem slices_rotateCmpFunc_box_line_C_ok:Good Tryz.prog 133 kbm:=good_dm
def kek:Ctr:=kbm.w slices_rotateCmpFunc_box_line_m0_M
theorem khm:Good Tryz.prog 133 kek:=(slices_rotateCmpFunc_box_line_C_ok.more kgC)
def kbF (k:Nat):CtrM:=⟨ "",[none,some (.i .i64),some (.i .i64),some (.i .i64),some (.fn 2 (.pr tLine tLine) (.i .i64))],⟨[(0,.mw 0)],[(0,.sl 121 tLine)]⟩,1,⟨[(0,.mw 0)],[(0,.sl 121 tLine)]⟩,1,0,λx=>kaq k x.1 x.2.1 x.2.2.1 x.2.2.2.1 x.2.2.2.2,false⟩
theorem kcK:∀ k,(kbF k).ok=true/\GoodM Tryz.prog 124 (kbF k)
 | 0=>kjf (by kernel_rfl) (λx=>rfl)
 | k+1=>kap Tryz.func124 (by kernel_rfl) (An:=[(0,⟨⟨[(10,.c (.i .i64)),(11,.c (.i .i64))],[]⟩,⟨[(10,.c (.i .i64))],[]⟩,[4,1],[0],1,false,""⟩),(8,⟨⟨[(13,.c (.i .i64))],[(0,.sl 121 tLine)]⟩,⟨[],[(0,.sl 121 tLine)]⟩,[10],[],2,false,""⟩),(16,⟨⟨[(14,.c (.i .i64)),(15,.c (.i .i64))],[]⟩,⟨[(14,.c (.i .i64))],[]⟩,[4,2],[0],1,false,""⟩),(24,⟨⟨[(17,.c (.i .i64))],[(0,.sl 121 tLine)]⟩,⟨[],[(0,.sl 121 tLine)]⟩,[14],[],2,false,""⟩),(561,⟨⟨[],[]⟩,⟨[(20,.c (.i .i64)),(21,.c (.i .i64))],[]⟩,[19,3,18,4,2,1],[0],1,false,""⟩),(32,⟨⟨[(20,.c (.i .i64)),(21,.c (.i .i64))],[]⟩,⟨[(20,.c (.i .i64))],[]⟩,[4,22,19,2,1,18,3],[0],1,false,""⟩),(158,⟨⟨[],[]⟩,⟨[(185,.c .b)],[]⟩,[20,2,24,4,1,18,3],[0],1,false,""⟩),(741,⟨⟨[],[(0,.sl 121 tLine)]⟩,⟨[],[(0,.sl 121 tLine)]⟩,[20,2,24,4,1,18,3],[],2,false,""⟩),(166,⟨⟨[],[]⟩,⟨[(199,.c .b)],[]⟩,[1,20,18,4,24,3],[0],2,false,""⟩),(797,⟨⟨[],[(0,.sl 121 tLine)]⟩,⟨[],[(0,.sl 121 tLine)]⟩,[1,20,18,4,24,3],[],3,false,""⟩)]) ((124,⟨ "",[],[],λ_=>none,[kbF k],[]⟩)::[(133,kek)]) (.cons (good_dm.more (kcK k)) <| .cons khm <| .nil) (λx=>by kernel_rfl)
def slices_symMergeCmpFunc_box_line_m0_M:CtrM:=⟨ "",[none,some Ti,some Ti,some Ti,some (.fn 2 (.pr tLine tLine) Ti)],⟨[(0,.mw 0)],[(0,.sl 121 tLine)]⟩,1,⟨[(0,.mw 0)],[(0,.sl 121 tLine)]⟩,1,0,λx=>kaJ x.1 x.2.1 x.2.2.1 x.2.2.2.1 x.2.2.2.2,false⟩
theorem kgc:slices_symMergeCmpFunc_box_line_m0_M.ok=true/\GoodM Tryz.prog 124 slices_symMergeCmpFunc_box_line_m0_M:=kcK 1000000
theorem slices_symMergeCmpFunc_box_line_C_ok:Good Tryz.prog 124 kbm:=good_dm
def kdM:Ctr:=kbm.w slices_symMergeCmpFunc_box_line_m0_M
theorem kgI:Good Tryz.prog 124 kdM:=(slices_symMergeCmpFunc_box_line_C_ok.more kgc)
def slices_stableCmpFunc_box_line_m0_M:CtrM:=⟨ "",[none,some Ti,some (.fn 2 (.pr tLine tLine) Ti)],⟨[(0,.mw 0)],[(0,.sl 121 tLine)]⟩,1,⟨[(0,.mw 0)],[(0,.sl 121 tLine)]⟩,1,0,λx=>kbs x.1 x.2.1 x.2.2,false⟩
theorem kgB:slices_stableCmpFunc_box_line_m0_M.ok=true/\GoodM Tryz.prog 106 slices_stableCmpFunc_box_line_m0_M:=
 kap Tryz.func106 (by kernel_rfl) (An:=[(0,⟨⟨[(8,.c Ti),(7,.c Ti)],[(0,.sl 121 tLine)]⟩,⟨[(7,.c Ti)],[(0,.sl 121 tLine)]⟩,[1,2,6],[],2,false,""⟩),(8,⟨⟨[(6,.c Ti)],[(0,.sl 121 tLine)]⟩,⟨[],[(0,.sl 121 tLine)]⟩,[1,2],[],3,false,""⟩),(16,⟨⟨[(8,.c Ti),(7,.c Ti)],[(0,.sl 121 tLine)]⟩,⟨[(7,.c Ti)],[(0,.sl 121 tLine)]⟩,[6],[],3,false,""⟩)]) [(124,kdM),(123,kcF)] (.cons kgI <| .cons kfw <| .nil) (λx=>by kernel_rfl)
theorem slices_stableCmpFunc_box_line_C_ok:Good Tryz.prog 106 kbm:=good_dm
def ken:Ctr:=kbm.w slices_stableCmpFunc_box_line_m0_M
theorem khg:Good Tryz.prog 106 ken:=(slices_stableCmpFunc_box_line_C_ok.more kgB)
def slices_SortStableFunc_s_box_line_box_line_m0_M:CtrM:=⟨ "",[none,some (.fn 2 (.pr tLine tLine) Ti)],⟨[(0,.mw 0)],[(0,.sl 121 tLine)]⟩,1,⟨[(0,.mw 0)],[(0,.sl 121 tLine)]⟩,1,0,λx=>kau x.1 x.2,false⟩
theorem kec:slices_SortStableFunc_s_box_line_box_line_m0_M.ok=true/\GoodM Tryz.prog 72 slices_SortStableFunc_s_box_line_box_line_m0_M:=
 kap Tryz.func72 (by kernel_rfl) (An:=[]) [(106,ken)] (.cons khg <| .nil) (λx=>by kernel_rfl)
theorem slices_SortStableFunc_s_box_line_box_line_C_ok:Good Tryz.prog 72 kbm:=good_dm
def kca:Ctr:=kbm.w slices_SortStableFunc_s_box_line_box_line_m0_M
theorem kel:Good Tryz.prog 72 kca:=(slices_SortStableFunc_s_box_line_box_line_C_ok.more kec)
def box_cheapest_c1_m0_M:CtrM:=⟨ "",[some Tl,none,none,none,none],⟨[(1,.ptr 0 0),(2,.ptr 2 0),(3,.ptr 3 0),(4,.ptr 4 0)],[(0,.bx 113 [.mp 1]),(1,.mp Tl Ti),(2,.bx 4 [.c .b]),(3,.bx 3 [.c Ti]),(4,.bx 115 [.c Ti,.c (.i .u8)])]⟩,5,⟨[(1,.ptr 0 0),(2,.ptr 2 0),(3,.ptr 3 0),(4,.ptr 4 0)],[(0,.bx 113 [.mp 1]),(1,.mp Tl Ti),(2,.bx 4 [.c .b]),(3,.bx 3 [.c Ti]),(4,.bx 115 [.c Ti,.c (.i .u8)])]⟩,5,0,λx=>kbd x.1 x.2.1 x.2.2.1 x.2.2.2.1 x.2.2.2.2.1 x.2.2.2.2.2,false⟩
theorem kmg:box_cheapest_c1_m0_M.ok=true/\GoodM Tryz.prog 105 box_cheapest_c1_m0_M:=
 kap Tryz.func105 (by kernel_rfl) (An:=[]) [(103,khT)] (.cons khj <| .nil) (λx=>by kernel_rfl)
theorem box_cheapest_c1_C_ok:Good Tryz.prog 105 kbm:=good_dm
def kjH:Ctr:=kbm.w box_cheapest_c1_m0_M
theorem kmA:Good Tryz.prog 105 kjH:=(box_cheapest_c1_C_ok.more kmg)
def box_cheapest_m0_M:CtrM:=⟨ "",[some (.sl tSwap),none,some Tl],⟨[(1,.mp 0)],[(0,.mp Tl Ti)]⟩,1,⟨[(1,.mp 0),(1000000,.c Ti),(1000001,.ag [.c Ti,.c (.i .u8)]),(1000002,.c .b)],[(0,.mp Tl Ti)]⟩,1,3,λx=>kdn x.1 x.2.1 x.2.2,false⟩
theorem knB:box_cheapest_m0_M.ok=true/\GoodM Tryz.prog 70 box_cheapest_m0_M:=
 kap Tryz.func70 (by kernel_rfl) (An:=[(0,⟨⟨[(22,.c Ti),(12,.fn 105 [.ptr 1 0,.ptr 6 0,.ptr 4 0,.ptr 5 0]),(9,.ptr 4 0),(10,.ptr 5 0),(11,.ptr 6 0)],[(1,.bx 113 [.mp 0]),(0,.mp Tl Ti),(6,.bx 4 [.c .b]),(4,.bx 3 [.c Ti]),(5,.bx 115 [.c Ti,.c (.i .u8)])]⟩,⟨[(9,.ptr 7 0),(10,.ptr 8 0),(11,.ptr 9 0)],[(7,.bx 3 [.c Ti]),(8,.bx 115 [.c Ti,.c (.i .u8)]),(9,.bx 4 [.c .b]),(0,.mp Tl Ti)]⟩,[21,20,5,7],[2,3],11,false,""⟩)]) [(105,kjH)] (.cons kmA <| .nil) (λx=>by kernel_rfl)
theorem box_cheapest_C_ok:Good Tryz.prog 70 kbm:=good_dm
def klP:Ctr:=kbm.w box_cheapest_m0_M
theorem koH:Good Tryz.prog 70 klP:=(box_cheapest_C_ok.more knB)
def koT:Ctr:=⟨ "",[Tj,Tj,(.sl tSwap),Tj],[tBill,Ti],λx=>kiz x.1 x.2.1 x.2.2.1 x.2.2.2,[],[]⟩
theorem kpt:Good Tryz.prog 23 koT:=
 kad Tryz.func23 (by kernel_rfl) (An:=[(4,⟨⟨[(55,.c Ti),(13,.mp 3)],[(3,.mp Tl Ti)]⟩,⟨[(13,.mp 4)],[(4,.mp Tl Ti)]⟩,[54,53,1,2,10,8,3],[2,0,1],5,false,""⟩),(12,⟨⟨[(67,.c Ti),(13,.mp 4),(16,.mw 5)],[(4,.mp Tl Ti),(5,.sl 121 tLine)]⟩,⟨[(16,.mw 6)],[(6,.sl 121 tLine)]⟩,[66,65,2,1,10,8,3],[2,0,1],7,false,""⟩),(20,⟨⟨[(101,.c Ti)],[]⟩,⟨[],[]⟩,[100,99,10,22,8,23,3],[6,12,7,9,2,0,1,13],14,true,""⟩),(28,⟨⟨[(152,.c Ti),(8,.ptr 2 0),(22,.ptr 12 0)],[(2,.bx 43 [.mw 0,.mw 1,.c Ti]),(12,.bx 43 [.mw 7,.mw 9,.c Ti]),(9,.sl 50 Tm)]⟩,⟨[(22,.ptr 14 0),(8,.ptr 16 0)],[(14,.bx 43 [.mw 7,.mw 15,.c Ti]),(15,.sl 50 Tm),(16,.bx 43 [.mw 0,.mw 1,.c Ti])]⟩,[151,150,23],[13,0,1,7],17,true,""⟩),(4,⟨⟨[(55,.c Ti),(13,.mp 7)],[(7,.mp Tl Ti)]⟩,⟨[(13,.mp 8)],[(8,.mp Tl Ti)]⟩,[54,53,1,2,10,8,3],[3,4,5,6,2,0,1],9,false,""⟩),(12,⟨⟨[(67,.c Ti),(13,.mp 8),(16,.mw 9)],[(8,.mp Tl Ti),(9,.sl 121 tLine)]⟩,⟨[(16,.mw 10)],[(10,.sl 121 tLine)]⟩,[66,65,2,1,10,8,3],[3,4,5,6,2,0,1],11,false,""⟩),(20,⟨⟨[(101,.c Ti),(10,.ptr 3 0),(22,.ptr 16 0),(8,.ptr 2 0),(23,.mp 17)],[(3,.bx 134 [.c Tj,.mw 4,.fw 5,.mw 6]),(4,.sl 31 Tk),(5,.fm 31 Tk 0 3 Ti),(6,.sl 3 Ti),(16,.bx 43 [.mw 11,.mw 13,.c Ti]),(11,.sl 3 Ti),(2,.bx 43 [.mw 0,.mw 1,.c Ti]),(17,.mp Tl Ti)]⟩,⟨[(23,.mp 18),(8,.ptr 19 0),(22,.ptr 20 0)],[(18,.mp Tl Ti),(19,.bx 43 [.mw 0,.mw 1,.c Ti]),(20,.bx 43 [.mw 21,.mw 13,.c Ti]),(21,.sl 3 Ti)]⟩,[100,99,3],[10,13,0,1],22,true,""⟩),(114,⟨⟨[],[]⟩,⟨[(125,.c .b)],[]⟩,[26,25,8,22,23,101,10],[18,2,16,11,17,3,4,5,6],19,false,""⟩),(28,⟨⟨[(152,.c Ti),(8,.ptr 19 0),(22,.ptr 20 0)],[(19,.bx 43 [.mw 0,.mw 1,.c Ti]),(20,.bx 43 [.mw 21,.mw 13,.c Ti]),(13,.sl 50 Tm)]⟩,⟨[(22,.ptr 22 0),(8,.ptr 24 0)],[(22,.bx 43 [.mw 21,.mw 23,.c Ti]),(23,.sl 50 Tm),(24,.bx 43 [.mw 0,.mw 1,.c Ti])]⟩,[151,150,23],[18,0,1,21],25,true,""⟩)]) [(58,kgO),(70,klP),(72,kca),(73,kpV),(69,kbp),(68,kfA),(67,kie),(65,kps),(59,kfW),(71,kfA)] (.cons kgy <| .cons koH <| .cons kel <| .cons ksW <| .cons keA <| .cons krK <| .cons kkK <| .cons ksw <| .cons kgq <| .cons keM <| .nil) (λx=>by kernel_rfl)
def koo:Ctr:=⟨ "",[],[(.sl Tj)],λx=>law08_plans,[],[]⟩
theorem krv:Good Tryz.prog 46 koo:=
 kad Tryz.func46 (by kernel_rfl) (An:=[]) [(43,kiP)] (.cons kju <| .nil) (λx=>by kernel_rfl)
def klv:Ctr:=⟨ "",[Ti],[.b],λx=>knb x,[],[]⟩
theorem koD:Good Tryz.prog 107 klv:=
 kad Tryz.func107 (by kernel_rfl) (An:=[]) [(66,keX)] (.cons kdp <| .nil) (λx=>by kernel_rfl)
def kcU:Ctr:=⟨ "",[Tk,(.fn 1 Ti .b)],[Ti],λx=>kdv x.1 x.2,[],[]⟩
theorem keu:Good Tryz.prog 86 kcU:=
 kad Tryz.func86 (by kernel_rfl) (An:=[(0,⟨⟨[(8,.c Ti)],[]⟩,⟨[],[]⟩,[7,1,0],[],0,true,""⟩)]) [] (.nil) (λx=>by kernel_rfl)
def kez:Ctr:=⟨ "",[Tk,(.fn 1 Ti .b)],[.b],λx=>kfo x.1 x.2,[],[]⟩
theorem khw:Good Tryz.prog 108 kez:=
 kad Tryz.func108 (by kernel_rfl) (An:=[]) [(86,kcU)] (.cons keu <| .nil) (λx=>by kernel_rfl)
def koz:Ctr:=⟨ "",[(.sl Tj),Tk],[Ti],λx=>krc x.1 x.2,[],[]⟩
theorem ksd:Good Tryz.prog 74 koz:=
 kad Tryz.func74 (by kernel_rfl) (An:=[]) [(108,kez),(107,klv),(50,kdq)] (.cons khw <| .cons koD <| .cons kcQ <| .nil) (λx=>by kernel_rfl)
def koq:Ctr:=⟨ "",[Ti,Ti],[Ti],λx=>kqU x.1 x.2,[],[]⟩
theorem krY:Good Tryz.prog 53 koq:=
 kad Tryz.func53 (by kernel_rfl) (An:=[]) [] (.nil) (λx=>by kernel_rfl)
def kon:Ctr:=⟨ "",[Tm],[.b],λx=>kqW x,[],[]⟩
theorem krJ:Good Tryz.prog 55 kon:=
 kad Tryz.func55 (by kernel_rfl) (An:=[]) [] (.nil) (λx=>by kernel_rfl)
def kzn:Ctr:=⟨ "",[Tj,Tj],[Tj,Ti],λx=>kre x.1 x.2,[],[]⟩
theorem box_Take_C_ok:Good Tryz.prog 17 kzn:=
 kad Tryz.func17 (by kernel_rfl) (An:=[]) [(55,kon),(53,koq),(51,klH),(50,kdq),(54,kbp)] (.cons krJ <| .cons krY <| .cons kmj <| .cons kcQ <| .cons kcc <| .nil) (λx=>by kernel_rfl)
def kdz:Ctr:=⟨ "",[Tj],[Tj],λx=>kaC x,[],[]⟩
theorem slices_Clone_s_api_Item_api_Item_C_ok:Good Tryz.prog 80 kdz:=
 kad Tryz.func80 (by kernel_rfl) (An:=[]) [] (.nil) (λx=>by kernel_rfl)
def growT:Ty:=.sl (.pr (.i .i64) (.pr (.i .u8) (.i .i64)))
abbrev GrowL:=List (Int×Int×Int)
def growA (x:GrowL):AV:=growT.av x
def growE (x:GrowL):Ya AV:=growT.enc x
def growY (y:Int×GrowL):Ya AV:=[.sc (.int .i64 y.1),growA y.2]
def growG (l:Nat) (A:AV):Nat->AV
 | 0=>.fn 110 [A,.fp [.sc (.func (.yield l) #[] #[])],.un]
 | d+1=>.fn 110 [A,.fp [.sc (.func (.yield l) #[] #[])],.fp [growG l A d]]
theorem kzP {l:Nat} {A:AV}:∀ d,(growG l A d).one=true
 | 0=>rfl
 | _+1=>rfl
theorem ksM {l:Nat} {A:AV} (hA:Free A):∀ d,Free (growG l A d)
 | 0=>by
  simp only [growG,kiI,kch,kkb,kty,khc,and_true,true_and];exact ⟨hA,.un⟩
 | d+1=>by
  have:=ksM (l:=l) hA d;simp only [growG,kiI,kch,kkb,kty,khc,and_true,true_and];exact ⟨hA,this⟩
theorem kjt (x:GrowL):Free (growA x):=kiD growT x rfl
theorem kzy {l p:GrowL} {r:GrowL×Int} (h:kre l p=some r):PC Tryz.prog 17 [growA l,growA p] (·= .tp [growA r.1,.sc (.int .i64 r.2)]):=
 box_Take_C_ok.2.1 (l,p) r h _ ⟨_,_,rfl,(kdx rfl).2 rfl,_,rfl,(kdx rfl).2 rfl⟩
theorem krd (ps:Ya GrowL):Free (.sl (ps.map growE)):=kiD (.sl growT) ps rfl
theorem ktG (l:Nat) (ps:Ya GrowL):∀ (d:Nat) (i s:Int) (x:GrowL) (w:Ya (Int×GrowL)),kcV d ps i s x=some w->
  YV Tryz.prog l (growG l (.fp [.sl (ps.map growE)]) d) [.sc (.int .i64 i),.sc (.int .i64 s),growA x] (w.map growY)
 | 0,i,s,x,w,h=>by cases h
 | d+1,i,s,x,w,h=>by
  refine YV.of_body (fn:=Tryz.f110) (rd:=9) Tryz.func110 rfl (by kernel_rfl) (by show 6<=49; omega) (by show 49<=9000000; omega) rfl λD G O k hD hl ok hx=>?_;subst hl;have hg:=ksM (l:=G.l) (A:=.fp [.sl (ps.map growE)]) (by simpa using krd ps) d;have a:=kjt x;let I:AV:=.sc (.int .i64 i)
  let S:AV:=.sc (.int .i64 s)
  let X:=growA x
  let A:AV:=.fp [.sl (ps.map growE)]
  let R:AV:=.fp [growG G.l A d]
  refine Sat.ofL ?_;refine SatL.seq (SatL.rreg rfl ⟨.sc (.bool false),.assign rfl rfl,?_⟩);refine SatL.seq (SatL.seq (SatL.rreg rfl ⟨I,.move rfl rfl,_,.load rfl rfl (by kernel_rfl),_,.len rfl rfl rfl rfl rfl (by kernel_rfl),_,.bin rfl rfl rfl (λK g=>⟨rfl,g⟩),?_⟩));refine SatL.condX (v:=i==(ps.map growE).length) rfl (λe=>?_) λe=>SatL.skip ?_
  ·have hi:i=lenI ps:=by simpa [lenI] using e
   obtain rfl:[(s,x)]=w:=Option.some.inj ((if_pos hi).symm.trans h);refine SatL.seq (SatL.yreg 3 rfl hD ok rfl ⟨_,.load rfl rfl (by kernel_rfl),S,.move rfl rfl,X,.move rfl rfl,YieldK.of [] (z:=ah0) (es:=List.replicate k []) (avs:=[.sc (.int .i64 s),growA x]) (.inl rfl) rfl rfl .yield rfl (by simpa [growY] using hx) (λq B h=>by cases h) (Snap.V (.free _ (.sc _))) (SnapL.free (show FreeL [S,X] by simp [S,X,a])) (λt H=>by cases H) (aopsR.plain ⟨.sc (.bool true),.assign rfl rfl,?_⟩) (aopsR.plain ⟨.sc (.bool false),.assign rfl rfl,?_⟩)⟩)
   ·exact SatL.ret ⟨.inr rfl,.inl ⟨_,rfl,by simp,rfl⟩⟩
   ·exact SatL.ret ⟨.inr rfl,.inr ⟨rfl,rfl⟩⟩
  have hi:¬ i=lenI ps:=by simpa [lenI] using e
  replace h:=(if_neg hi).symm.trans h;obtain ⟨p,hp,h⟩:=jab.1 h;obtain ⟨r,hr,h⟩:=jab.1 h;obtain ⟨Y,hp⟩:=knu hp;let Z:=growA r.1
  let E:AV:=.sc (.int .i64 r.2)
  refine SatL.seq (SatL.seq (SatL.rreg rfl ⟨X,.move rfl rfl,_,.load rfl rfl (by kernel_rfl),I,.move rfl rfl,_,.idx (e:=22) (c:=growE p) rfl rfl rfl (by kernel_rfl) Y (by simp; exact ⟨p,hp,rfl⟩) (by kernel_rfl) (by simp [growE,growT,Ty.enc]),growA p,.load rfl rfl (by kernel_rfl),.tp [Z,E],.call rfl rfl rfl rfl (kzy hr) (show FreeL [X,growA p] by simp only [kch,khc,and_true]; exact ⟨a,kjt p⟩),.tp [Z,E],.move rfl rfl,Z,.extract rfl rfl rfl,E,.extract rfl rfl rfl,Z,.assign rfl rfl,E,.assign rfl rfl,?_⟩));have F:∀ (es:Ya (Ya AV)) (f:Ya (Int×GrowL)) (env:Env),lk env GS = .gs es->lk env 0=I->lk env 1=S->lk env 2=X->lk env 5=R->kcV d ps (w64 (i+1)) s x=some f->es.length+f.length=k+w.length->(∀ j,j<f.length->G.xs[es.length+j]?=(f.map growY)[j]?)->
    SatL Tryz.prog 49 D O [(Tryz.f110.body.getD .skip |> λc=>match c with | .seq _ (.seq _ (.seq _ c))=>c | c=>c)] (yvQ 9 (k+(w.map growY).length)) ⟨env,ah0,0⟩:=by
   intro es f env e1 e2 e3 e4 e5 ad C ac;let o:AV:=.sc (.int .i64 (w64 (i+1)))
   refine SatL.seq (SatL.yreg 5 rfl hD ok rfl ⟨growG G.l A d,.load rfl (show deref ah0 (lk env 5)=_ by rw [e5]; rfl) (by kernel_rfl),I,.move rfl e2,o,.bin rfl rfl rfl (λK g=>⟨rfl,g⟩),S,.move rfl e3,X,.move rfl e4,
    YieldK.of [] (z:=ah0) (es:=es) (avs:=[o,S,X]) (.inl rfl) rfl rfl (ktG G.l ps d (w64 (i+1)) s x f ad) e1 (by simpa using ac) (λq B h=>by cases h) (Snap.V (.free _ hg)) (SnapL.free (show FreeL [o,S,X] by simp [o,S,X,a])) (λt H=>by cases H) (aopsR.plain ⟨.sc (.bool true),.assign rfl rfl,?_⟩) (aopsR.plain ⟨.sc (.bool false),.assign rfl rfl,?_⟩)⟩)
   ·exact SatL.ret ⟨.inr rfl,.inl ⟨_,rfl,by simp; omega,rfl⟩⟩
   ·exact SatL.ret ⟨.inr rfl,.inr ⟨rfl,rfl⟩⟩
  by_cases y:r.2=0
  ·rw [if_pos y] at h;obtain ⟨b,hb,h⟩:=jab.1 h;obtain ⟨l1,ab,h⟩:=jab.1 h;obtain ⟨l2,aa,h⟩:=jab.1 h;obtain rfl:l1++l2=w:=Option.some.inj h;obtain rfl:w64 (1*2 ^ (min i.toNat 64))=b:=Option.some.inj ((if_pos Y).symm.trans hb);have P:∀ j,j<l1.length+l2.length->G.xs[k+j]?=(l1.map growY++l2.map growY)[j]?:=λj J=>by
    rw [<-jcj];exact hx j (by rw [jar]; exact Nat.lt_of_lt_of_eq J jba.symm)
   have C:(l1++l2).length=l1.length+l2.length:=jba;let o:AV:=.sc (.int .i64 (w64 (i+1)))
   let W:AV:=.sc (.int .i64 (w64 (1*2 ^ (min i.toNat 64))))
   let Q:AV:=.sc (.int .i64 (bitsI .or .i64 s (w64 (1*2 ^ (min i.toNat 64)))))
   refine SatL.seq (SatL.yregD 11 rfl hD ok (by kernel_rfl) (by kernel_rfl) (by kernel_rfl) (by kernel_rfl) rfl ⟨E,.move rfl rfl,.sc (.bool true),.bin rfl rfl rfl (λK g=>⟨rfl,by rw [y]; exact g⟩),.sc (.bool true),.move rfl rfl,growG G.l A d,.load rfl rfl (by kernel_rfl),I,.move rfl rfl,o,.bin rfl rfl rfl (λK g=>⟨rfl,g⟩),S,.move rfl rfl,I,.move rfl rfl,
    W,.bin rfl rfl rfl (λK g=>⟨Y,g⟩),Q,.bin rfl rfl rfl (λK g=>⟨rfl,g⟩),Z,.move rfl rfl,
    YieldK.of [0,1,2,5,31] (z:=ah0) (es:=List.replicate k []) (avs:=[o,Q,Z]) (.inr ⟨_,_,_,rfl,rfl,rfl⟩) rfl rfl (ktG G.l ps d (w64 (i+1)) _ r.1 l1 ab) rfl (λj J=>?_) (λq B h=>by cases h) (Snap.V (.free _ hg)) (SnapL.free (show FreeL [o,Q,Z] by simp only [o,Q,kch,khc,and_true,kty,true_and]; exact kjt r.1)) (λt H=>?_)
     (aopsR.plain ⟨.sc (.bool false),.not true rfl rfl rfl,.sc (.bool false),.pick rfl rfl rfl,?_⟩) (aopsR.plain ⟨.sc (.bool true),.not false rfl rfl rfl,.sc (.bool true),.pick rfl rfl rfl,?_⟩)⟩)
   ·rw [jar] at J;rw [jdh,P j (by omega),jbl (by simpa using J)]
   ·simp only [jbu,List.not_mem_nil,or_false] at H;rcases H with rfl | rfl | rfl | rfl | rfl
    ·exact .sc _
    ·exact .sc _
    ·exact a
    ·show Free R;simp only [R,kkb,kch,khc,and_true];exact hg
    ·exact .sc _
   ·exact SatL.condF (v:=false) rfl rfl (SatL.skip (F _ l2 _ rfl rfl rfl rfl rfl aa (by rw [jba,jdh,jar,C]; omega) (λj J=>by rw [jba,jdh,jar,jeh,P _ (by omega),jci (by simp),jar,Nat.add_sub_cancel_left])))
   ·exact SatL.condT (v:=true) rfl rfl (SatL.seq (SatL.rreg rfl ⟨.sc (.bool false),.assign rfl rfl,SatL.ret ⟨.inr rfl,.inr ⟨rfl,rfl⟩⟩⟩))
  ·rw [if_neg y] at h;refine SatL.seq (SatL.rregD (by kernel_rfl) (by kernel_rfl) rfl ⟨E,.move rfl rfl,.sc (.bool false),.bin rfl rfl rfl (λK g=>⟨rfl,by rw [show (r.2==0)=false by simpa using y]; exact g⟩),.sc (.bool false),.move rfl rfl,.sc (.bool false),.pick rfl rfl rfl,?_⟩);exact SatL.condF (v:=false) rfl rfl (SatL.skip (F _ w _ rfl rfl rfl rfl rfl h (by simp) (by simpa using hx)))
theorem kzj {x l:GrowL} (h:kaC x=some l):PC Tryz.prog 80 [growA x] (·= growA l):=
 slices_Clone_s_api_Item_api_Item_C_ok.2.1 x l h _ ⟨_,rfl,(kdx rfl).2 rfl⟩
def knn:CtrI:=⟨ "",[.pt (.sl growT),.pt growT],[.i .i64,growT],λx=>runI λo=>kiR o x.1 x.2⟩
theorem kzd {l:Nat} {A:AV} {h:AH} (hA:Free A) (g:h 0=some (.cells 1 161 [[.sc (.func (.yield l) #[] #[])]])) (e:h 1=some (.cells 1 162 [[.fn 110 [A,.own 0 0 0,.own 1 0 0]]])):∀ d,SnapV h (.fn 110 [A,.own 0 0 0,.own 1 0 0]) (growG l A d):=λd=>by
 have step:∀ R,SnapV h (.own 1 0 0) R->SnapV h (.fn 110 [A,.own 0 0 0,.own 1 0 0]) (.fn 110 [A,.fp [.sc (.func (.yield l) #[] #[])],R]):=λR hR=>.fn rfl λq c c' b a=>by
  match q,b,a with
  | 0,b,a=>cases b; cases a; exact Snap.V (.free _ hA)
  | 1,b,a=>cases b; cases a; exact SnapV.own1 g rfl (Snap.V (.free _ (.sc _)))
  | 2,b,a=>cases b; cases a; exact hR
  | q+3,b,a=>cases b
 induction d with
 | zero=>exact step _ .un
 | succ d f=>exact step _ (.own1 e (kzP d) f)
theorem kqy:GoodI Tryz.prog 109 knn:=by
 refine ⟨rfl,λx xs hF l hl=>?_⟩;obtain ⟨ps,x⟩:=x;obtain ⟨a,l',rfl,H,a',rfl,e⟩:=hl;obtain rfl:=(kdx rfl).1 H;obtain rfl:=(kdx rfl).1 e;have hF:(kaC x).bind (λl=>kcV (ps.length+1) ps 0 0 l)=some xs:=by
  obtain ⟨J,I,h2⟩:=jab.1 (show runI (λo=>kiR o ps x)=some xs from hF);obtain ⟨ys,R,f⟩:=jab.1 h2;split at f
  ·cases f; exact I
  ·cases f
 obtain ⟨c,P,E⟩:=jab.1 hF;refine IT.of_body (fn:=Tryz.f109) Tryz.func109 rfl (by kernel_rfl) (by show 3<=10; omega) (by show 10<=9000000; omega) rfl λD G O hD K ok=>?_;have hA:Free (.fp [.sl (ps.map growE)]):=by simpa using krd ps
 let Y:AV:=.sc (.func (.yield G.l) #[] #[])
 let A:AV:=.fp [.sl (ps.map growE)]
 let F:AV:=.fn 110 [A,.own 0 0 0,.own 1 0 0]
 let w:AH:=updH ah0 0 (.cells 1 161 [[Y]])
 let p:AH:=updH w 1 (.cells 1 162 [[.sc .nilFunc]])
 let g:AH:=updH p 1 (.cells 1 162 [[F]])
 let e0:Env:=(GS,.gs [])::kat (.sc (.func (.yield G.l) #[] #[])::[(Ty.pt (.sl growT)).av ps,(Ty.pt growT).av x])
 refine Sat.ofL (SatL.seq (Sat.region rfl (show SatL Tryz.prog 10 D O _ _ ⟨(3,.own 0 0 0)::e0,w,1⟩ from ?_)));refine SatL.seq (Sat.region rfl (aops.cons rfl<|aop.alloc (z:=[.sc .nilFunc]) rfl (by kernel_rfl) (show SatL Tryz.prog 10 D O _ _ ⟨(4,.own 1 0 0)::(3,.own 0 0 0)::e0,p,2⟩ from ?_)));refine SatL.seq (Sat.region rfl (aops.cons rfl<|aop.mkfn (v:=F) rfl rfl<|aops.cons rfl<|aop.store (id:=1) (k:=1) (T':=162) (a:=.sc .nilFunc) (b:=F) rfl rfl rfl rfl (by kernel_rfl) (show SatL Tryz.prog 10 D O _ _ ⟨(5,F)::(4,.own 1 0 0)::(3,.own 0 0 0)::e0,g,2⟩ from ?_)));let C:=growA c
 refine SatL.yregD 3 rfl hD ok (by kernel_rfl) (by kernel_rfl) (by kernel_rfl) (by kernel_rfl) rfl ⟨F,.load rfl rfl (by kernel_rfl),growA x,.load rfl rfl (by kernel_rfl),C,.call rfl rfl rfl rfl (kzj P) (show FreeL [growA x] by simpa using kjt x),
  YieldK.of [] (z:=g) (es:=[]) (avs:=[.sc (.int .i64 0),.sc (.int .i64 0),C]) (.inl rfl) rfl rfl (ktG G.l ps (ps.length+1) 0 0 c xs E) rfl (λj Q=>?_) (λq B h=>h) (kzd hA rfl rfl _) (SnapL.free (show FreeL [.sc (.int .i64 0),.sc (.int .i64 0),C] by simpa using kjt c)) (λt y=>by cases y) ?_ ?_⟩
 ·rw [K]; simp only [jeg,jck]; rfl
 ·exact ⟨.inl rfl,.inl ⟨_,rfl,rfl⟩⟩
 ·exact ⟨.inl rfl,.inr rfl⟩
def khe:Ctr:=⟨ "",[],[],λ_=>none,[],[knn]⟩
theorem khy:Good Tryz.prog 109 khe:=good_dm.moreI kqy
def box_built_m0_M:CtrM:=⟨ "",[some Tj,some (.sl Tj)],⟨[],[]⟩,0,⟨[(1000000,.fn 109 [.ptr 0 0,.ptr 1 0])],[(0,.bx 54 [.c (.sl Tj)]),(1,.bx 22 [.c Tj])]⟩,2,1,λx=>kpr x.1 x.2,false⟩
theorem kqp:box_built_m0_M.ok=true/\GoodM Tryz.prog 75 box_built_m0_M:=
 kap Tryz.func75 (by kernel_rfl) (An:=[]) [(109,khe)] (.cons khy <| .nil) (λx=>by kernel_rfl)
theorem box_built_C_ok:Good Tryz.prog 75 kbm:=good_dm
def kok:Ctr:=kbm.w box_built_m0_M
theorem krQ:Good Tryz.prog 75 kok:=(box_built_C_ok.more kqp)
def kox:Ctr:=⟨ "",[Ti,Tk],[Tk,Ti],λx=>krb x.1 x.2,[],[]⟩
theorem krV:Good Tryz.prog 76 kox:=
 kad Tryz.func76 (by kernel_rfl) (An:=[(0,⟨⟨[(12,.c Ti),(6,.mw 1),(7,.c Ti)],[(1,.sl 3 Ti)]⟩,⟨[(6,.mw 2),(7,.c Ti)],[(2,.sl 3 Ti)]⟩,[11,10,0],[],3,false,""⟩)]) [] (.nil) (λx=>by kernel_rfl)
def kgi:Ctr:=⟨ "",[Tk,Tk],[Ti],λx=>kgR x.1 x.2,[],[]⟩
theorem kjz:Good Tryz.prog 79 kgi:=
 kad Tryz.func79 (by kernel_rfl) (An:=[(0,⟨⟨[(11,.c Ti)],[]⟩,⟨[],[]⟩,[10,9,1,0],[],0,true,""⟩)]) [(78,kdN)] (.cons kdP <| .nil) (λx=>by kernel_rfl)
def kpC:Ctr:=⟨ "",[Tj,(.sl Tj),Tk],[kBQ,Ti],λx=>ksG x.1 x.2.1 x.2.2,[],[]⟩
theorem ksZ:Good Tryz.prog 28 kpC:=
 kad Tryz.func28 (by kernel_rfl) (An:=[(73,⟨⟨[],[]⟩,⟨[(8,.c Ti)],[]⟩,[1,5,6,0],[0,3,1,2],5,false,""⟩),(0,⟨⟨[],[(9,.bx 57 [.c Tk,.c Ti,.c Tj])]⟩,⟨[],[(9,.bx 57 [.c Tk,.c Ti,.c Tj])]⟩,[29,9,6,5],[3,1,2,0],13,false,""⟩)]) [(79,kgi),(76,kox),(75,kok),(109,khe),(80,kdz),(74,koz),(50,kdq),(77,kiW),(78,kdN)] (.cons kjz <| .cons krV <| .cons krQ <| .cons khy <| .cons slices_Clone_s_api_Item_api_Item_C_ok <| .cons ksd <| .cons kcQ <| .cons kiQ <| .cons kdP <| .nil) (λx=>by kernel_rfl)
def kfx:CtrI:=⟨ "",[(.pt Tk)],[Ti],λx=>runI λo=>kfl o x⟩
theorem kiN:GoodI Tryz.prog 131 kfx:=
 kBq Tryz.func131 (by kernel_rfl) (An:=[(0,⟨⟨[(7,.c Ti),(9000000,.gs Ti)],[]⟩,⟨[(9000000,.gs Ti)],[]⟩,[6,5],[],1,true,""⟩)]) [] (.nil) (λx=>by kernel_rfl)
def kaN:Ctr:=⟨ "",[],[],λ_=>none,[],[kfx]⟩
theorem kaV:Good Tryz.prog 131 kaN:=good_dm.moreI kiN
def slices_Values_s_int_int_m0_M:CtrM:=⟨ "",[some Tk],⟨[],[]⟩,0,⟨[(1000000,.fn 131 [.ptr 0 0])],[(0,.bx 31 [.c Tk])]⟩,1,1,λx=>kgb x,false⟩
theorem kiK:slices_Values_s_int_int_m0_M.ok=true/\GoodM Tryz.prog 118 slices_Values_s_int_int_m0_M:=
 kap Tryz.func118 (by kernel_rfl) (An:=[]) [(131,kaN)] (.cons kaV <| .nil) (λx=>by kernel_rfl)
theorem slices_Values_s_int_int_C_ok:Good Tryz.prog 118 kbm:=good_dm
def kfI:Ctr:=kbm.w slices_Values_s_int_int_m0_M
theorem kjn:Good Tryz.prog 118 kfI:=(slices_Values_s_int_int_C_ok.more kiK)
def kkR:Ctr:=⟨ "",[(.i .u32)],[Ti],λx=>ksI x,[],[]⟩
theorem knH:Good Tryz.prog 147 kkR:=
 kad Tryz.func147 (by kernel_rfl) (An:=[(17,⟨⟨[],[]⟩,⟨[(0,.c (.i .u32)),(2,.c Ti)],[]⟩,[],[],0,false,""⟩)]) [] (.nil) (λx=>by kernel_rfl)
def kkU:Ctr:=⟨ "",[(.i .u64)],[Ti],λx=>kmn x,[],[]⟩
theorem knL:Good Tryz.prog 148 kkU:=
 kad Tryz.func148 (by kernel_rfl) (An:=[(17,⟨⟨[],[]⟩,⟨[(0,.c (.i .u64)),(2,.c Ti)],[]⟩,[],[],0,false,""⟩),(33,⟨⟨[],[]⟩,⟨[(0,.c (.i .u64)),(2,.c Ti)],[]⟩,[],[],0,false,""⟩)]) [] (.nil) (λx=>by kernel_rfl)
def kji:Ctr:=⟨ "",[(.i .u64)],[Ti],λx=>kkM x,[],[]⟩
theorem kkv:Good Tryz.prog 136 kji:=
 kad Tryz.func136 (by kernel_rfl) (An:=[]) [(148,kkU),(147,kkR)] (.cons knL <| .cons knH <| .nil) (λx=>by kernel_rfl)
def kcp:Ctr:=⟨ "",[Ti,Ti],[.b],λx=>kaS x.1 x.2,[],[]⟩
theorem kbY:Good Tryz.prog 144 kcp:=
 kad Tryz.func144 (by kernel_rfl) (An:=[]) [(111,kje)] (.cons kkD <| .nil) (λx=>by kernel_rfl)
def khq:Ctr:=⟨ "",[Ti],[(.i .u64)],λx=>kix x,[],[]⟩
theorem kkP:Good Tryz.prog 150 khq:=
 kad Tryz.func150 (by kernel_rfl) (An:=[]) [(136,kji)] (.cons kkv <| .nil) (λx=>by kernel_rfl)
def slices_xorshift_Next_m0_M:CtrM:=⟨ "",[none],⟨[(0,.ptr 0 0)],[(0,.bx 202 [.c (.i .u64)])]⟩,1,⟨[(0,.ptr 0 0),(1000000,.c (.i .u64))],[(0,.bx 202 [.c (.i .u64)])]⟩,1,1,λx=>kht x,false⟩
theorem kjR:slices_xorshift_Next_m0_M.ok=true/\GoodM Tryz.prog 151 slices_xorshift_Next_m0_M:=
 kap Tryz.func151 (by kernel_rfl) (An:=[]) [] (.nil) (λx=>by kernel_rfl)
theorem slices_xorshift_Next_C_ok:Good Tryz.prog 151 kbm:=good_dm
def kgL:Ctr:=kbm.w slices_xorshift_Next_m0_M
theorem kks:Good Tryz.prog 151 kgL:=(slices_xorshift_Next_C_ok.more kjR)
def slices_order2Ordered_int_m0_M:CtrM:=⟨ "",[some Tk,some Ti,some Ti,none],⟨[(3,.ptr 0 0)],[(0,.bx 3 [.c Ti])]⟩,1,⟨[(3,.ptr 0 0),(1000000,.c Ti),(1000001,.c Ti)],[(0,.bx 3 [.c Ti])]⟩,1,2,λx=>kcb x.1 x.2.1 x.2.2.1 x.2.2.2,false⟩
theorem kij:slices_order2Ordered_int_m0_M.ok=true/\GoodM Tryz.prog 154 slices_order2Ordered_int_m0_M:=
 kap Tryz.func154 (by kernel_rfl) (An:=[]) [(144,kcp)] (.cons kbY <| .nil) (λx=>by kernel_rfl)
theorem slices_order2Ordered_int_C_ok:Good Tryz.prog 154 kbm:=good_dm
def kfB:Ctr:=kbm.w slices_order2Ordered_int_m0_M
theorem kiO:Good Tryz.prog 154 kfB:=(slices_order2Ordered_int_C_ok.more kij)
def slices_medianOrdered_int_m0_M:CtrM:=⟨ "",[some Tk,some Ti,some Ti,some Ti,none],⟨[(4,.ptr 0 0)],[(0,.bx 3 [.c Ti])]⟩,1,⟨[(4,.ptr 0 0),(1000000,.c Ti)],[(0,.bx 3 [.c Ti])]⟩,1,1,λx=>kdc x.1 x.2.1 x.2.2.1 x.2.2.2.1 x.2.2.2.2,false⟩
theorem kiw:slices_medianOrdered_int_m0_M.ok=true/\GoodM Tryz.prog 153 slices_medianOrdered_int_m0_M:=
 kap Tryz.func153 (by kernel_rfl) (An:=[]) [(154,kfB)] (.cons kiO <| .nil) (λx=>by kernel_rfl)
theorem slices_medianOrdered_int_C_ok:Good Tryz.prog 153 kbm:=good_dm
def kcR:Ctr:=kbm.w slices_medianOrdered_int_m0_M
theorem kex:Good Tryz.prog 153 kcR:=(slices_medianOrdered_int_C_ok.more kiw)
def slices_medianAdjacentOrdered_int_m0_M:CtrM:=⟨ "",[some Tk,some Ti,none],⟨[(2,.ptr 0 0)],[(0,.bx 3 [.c Ti])]⟩,1,⟨[(2,.ptr 0 0),(1000000,.c Ti)],[(0,.bx 3 [.c Ti])]⟩,1,1,λx=>kbi x.1 x.2.1 x.2.2,false⟩
theorem kfP:slices_medianAdjacentOrdered_int_m0_M.ok=true/\GoodM Tryz.prog 152 slices_medianAdjacentOrdered_int_m0_M:=
 kap Tryz.func152 (by kernel_rfl) (An:=[]) [(153,kcR)] (.cons kex <| .nil) (λx=>by kernel_rfl)
theorem slices_medianAdjacentOrdered_int_C_ok:Good Tryz.prog 152 kbm:=good_dm
def kde:Ctr:=kbm.w slices_medianAdjacentOrdered_int_m0_M
theorem kge:Good Tryz.prog 152 kde:=(slices_medianAdjacentOrdered_int_C_ok.more kfP)
def kev:Ctr:=⟨ "",[Tk,Ti,Ti],[Ti,Ti],λx=>kfp x.1 x.2.1 x.2.2,[],[]⟩
theorem khA:Good Tryz.prog 141 kev:=
 kad Tryz.func141 (by kernel_rfl) (An:=[(129,⟨⟨[(9,.ptr 0 0)],[(0,.bx 3 [.c Ti])]⟩,⟨[(9,.ptr 1 0),(11,.c Ti)],[(1,.bx 3 [.c Ti])]⟩,[8,0],[],2,false,""⟩),(137,⟨⟨[(9,.ptr 0 0)],[(0,.bx 3 [.c Ti])]⟩,⟨[(10,.c Ti),(11,.c Ti),(12,.c Ti),(9,.ptr 1 0)],[(1,.bx 3 [.c Ti])]⟩,[],[],2,false,""⟩)]) [(152,kde),(153,kcR)] (.cons kge <| .cons kex <| .nil) (λx=>by kernel_rfl)
def slices_AppendSeq_s_int_int_m0_M:CtrM:=⟨ "",[none,none],⟨[(0,.mw 0),(1,.fn 131 [.ptr 1 0])],[(0,.sl 3 Ti),(1,.bx 31 [.c Tk])]⟩,2,⟨[(1000000,.mw 2)],[(2,.sl 3 Ti)]⟩,3,1,λx=>kfk x.1 x.2,false⟩
theorem khC:slices_AppendSeq_s_int_int_m0_M.ok=true/\GoodM Tryz.prog 134 slices_AppendSeq_s_int_int_m0_M:=
 kap Tryz.func134 (by kernel_rfl) (An:=[(0,⟨⟨[],[(2,.bx 31 [.mw 0]),(0,.sl 3 Ti)]⟩,⟨[],[(2,.bx 31 [.mw 5]),(5,.sl 3 Ti)]⟩,[6,2],[],6,false,""⟩)]) [(131,kaN),(109,khe)] (.cons kaV <| .cons khy <| .nil) (λx=>by kernel_rfl)
theorem slices_AppendSeq_s_int_int_C_ok:Good Tryz.prog 134 kbm:=good_dm
def keU:Ctr:=kbm.w slices_AppendSeq_s_int_int_m0_M
theorem khZ:Good Tryz.prog 134 keU:=(slices_AppendSeq_s_int_int_C_ok.more khC)
def slices_Collect_int_m0_M:CtrM:=⟨ "",[none],⟨[(0,.fn 131 [.ptr 0 0])],[(0,.bx 31 [.c Tk])]⟩,1,⟨[(1000000,.mw 1)],[(1,.sl 3 Ti)]⟩,2,1,λx=>kiF x,false⟩
theorem kkN:slices_Collect_int_m0_M.ok=true/\GoodM Tryz.prog 129 slices_Collect_int_m0_M:=
 kap Tryz.func129 (by kernel_rfl) (An:=[]) [(134,keU),(131,kaN)] (.cons khZ <| .cons kaV <| .nil) (λx=>by kernel_rfl)
theorem slices_Collect_int_C_ok:Good Tryz.prog 129 kbm:=good_dm
def khG:Ctr:=kbm.w slices_Collect_int_m0_M
theorem kle:Good Tryz.prog 129 khG:=(slices_Collect_int_C_ok.more kkN)
def slices_insertionSortOrdered_int_m0_M:CtrM:=⟨ "",[none,some Ti,some Ti],⟨[(0,.mw 0)],[(0,.sl 3 Ti)]⟩,1,⟨[(0,.mw 0)],[(0,.sl 3 Ti)]⟩,1,0,λx=>kdI x.1 x.2.1 x.2.2,false⟩
theorem kgf:slices_insertionSortOrdered_int_m0_M.ok=true/\GoodM Tryz.prog 138 slices_insertionSortOrdered_int_m0_M:=
 kap Tryz.func138 (by kernel_rfl) (An:=[(0,⟨⟨[(6,.c Ti)],[(0,.sl 3 Ti)]⟩,⟨[],[(0,.sl 3 Ti)]⟩,[2,1],[],2,false,""⟩),(8,⟨⟨[(7,.c Ti)],[(0,.sl 3 Ti)]⟩,⟨[],[(0,.sl 3 Ti)]⟩,[6],[],2,false,""⟩)]) [(144,kcp)] (.cons kbY <| .nil) (λx=>by kernel_rfl)
theorem slices_insertionSortOrdered_int_C_ok:Good Tryz.prog 138 kbm:=good_dm
def kdm:Ctr:=kbm.w slices_insertionSortOrdered_int_m0_M
theorem kgn:Good Tryz.prog 138 kdm:=(slices_insertionSortOrdered_int_C_ok.more kgf)
def slices_siftDownOrdered_int_m0_M:CtrM:=⟨ "",[none,some Ti,some Ti,some Ti],⟨[(0,.mw 0)],[(0,.sl 3 Ti)]⟩,1,⟨[(0,.mw 0)],[(0,.sl 3 Ti)]⟩,1,0,λx=>kcH x.1 x.2.1 x.2.2.1 x.2.2.2,false⟩
theorem khv:slices_siftDownOrdered_int_m0_M.ok=true/\GoodM Tryz.prog 149 slices_siftDownOrdered_int_m0_M:=
 kap Tryz.func149 (by kernel_rfl) (An:=[(0,⟨⟨[(8,.c Ti)],[(0,.sl 3 Ti)]⟩,⟨[],[(0,.sl 3 Ti)]⟩,[2,3],[],2,true,""⟩),(14,⟨⟨[],[]⟩,⟨[(36,.c .b)],[]⟩,[9,8],[0],1,false,""⟩),(145,⟨⟨[],[]⟩,⟨[(9,.c Ti)],[]⟩,[8],[0],1,false,""⟩)]) [(144,kcp)] (.cons kbY <| .nil) (λx=>by kernel_rfl)
theorem slices_siftDownOrdered_int_C_ok:Good Tryz.prog 149 kbm:=good_dm
def keR:Ctr:=kbm.w slices_siftDownOrdered_int_m0_M
theorem khU:Good Tryz.prog 149 keR:=(slices_siftDownOrdered_int_C_ok.more khv)
def slices_heapSortOrdered_int_m0_M:CtrM:=⟨ "",[none,some Ti,some Ti],⟨[(0,.mw 0)],[(0,.sl 3 Ti)]⟩,1,⟨[(0,.mw 0)],[(0,.sl 3 Ti)]⟩,1,0,λx=>kfn x.1 x.2.1 x.2.2,false⟩
theorem khu:slices_heapSortOrdered_int_m0_M.ok=true/\GoodM Tryz.prog 139 slices_heapSortOrdered_int_m0_M:=
 kap Tryz.func139 (by kernel_rfl) (An:=[(0,⟨⟨[(9,.c Ti)],[(0,.sl 3 Ti)]⟩,⟨[],[(0,.sl 3 Ti)]⟩,[8,6,7],[],2,false,""⟩),(8,⟨⟨[(10,.c Ti)],[(0,.sl 3 Ti)]⟩,⟨[],[(0,.sl 3 Ti)]⟩,[6,7],[],3,false,""⟩)]) [(149,keR)] (.cons khU <| .nil) (λx=>by kernel_rfl)
theorem slices_heapSortOrdered_int_C_ok:Good Tryz.prog 139 kbm:=good_dm
def keN:Ctr:=kbm.w slices_heapSortOrdered_int_m0_M
theorem khR:Good Tryz.prog 139 keN:=(slices_heapSortOrdered_int_C_ok.more khu)
def slices_breakPatternsOrdered_int_m0_M:CtrM:=⟨ "",[none,some Ti,some Ti],⟨[(0,.mw 0)],[(0,.sl 3 Ti)]⟩,1,⟨[(0,.mw 0)],[(0,.sl 3 Ti)]⟩,1,0,λx=>kdE x.1 x.2.1 x.2.2,false⟩
theorem kgd:slices_breakPatternsOrdered_int_m0_M.ok=true/\GoodM Tryz.prog 140 slices_breakPatternsOrdered_int_m0_M:=
 kap Tryz.func140 (by kernel_rfl) (An:=[(0,⟨⟨[(9,.c Ti),(7,.ptr 1 0)],[(1,.bx 202 [.c (.i .u64)]),(0,.sl 3 Ti)]⟩,⟨[],[(0,.sl 3 Ti)]⟩,[1,6,8],[],3,false,""⟩),(173,⟨⟨[],[]⟩,⟨[(10,.c Ti)],[]⟩,[9,7],[0,1],2,false,""⟩)]) [(151,kgL),(150,khq)] (.cons kks <| .cons kkP <| .nil) (λx=>by kernel_rfl)
theorem slices_breakPatternsOrdered_int_C_ok:Good Tryz.prog 140 kbm:=good_dm
def kdk:Ctr:=kbm.w slices_breakPatternsOrdered_int_m0_M
theorem kgt:Good Tryz.prog 140 kdk:=(slices_breakPatternsOrdered_int_C_ok.more kgd)
def slices_reverseRangeOrdered_int_m0_M:CtrM:=⟨ "",[none,some Ti,some Ti],⟨[(0,.mw 0)],[(0,.sl 3 Ti)]⟩,1,⟨[(0,.mw 0)],[(0,.sl 3 Ti)]⟩,1,0,λx=>kdZ x.1 x.2.1 x.2.2,false⟩
theorem kgp:slices_reverseRangeOrdered_int_m0_M.ok=true/\GoodM Tryz.prog 142 slices_reverseRangeOrdered_int_m0_M:=
 kap Tryz.func142 (by kernel_rfl) (An:=[(0,⟨⟨[(6,.c Ti),(7,.c Ti)],[(0,.sl 3 Ti)]⟩,⟨[],[(0,.sl 3 Ti)]⟩,[],[],2,false,""⟩)]) [] (.nil) (λx=>by kernel_rfl)
theorem slices_reverseRangeOrdered_int_C_ok:Good Tryz.prog 142 kbm:=good_dm
def kdF:Ctr:=kbm.w slices_reverseRangeOrdered_int_m0_M
theorem kgH:Good Tryz.prog 142 kdF:=(slices_reverseRangeOrdered_int_C_ok.more kgp)
def slices_partialInsertionSortOrdered_int_m0_M:CtrM:=⟨ "",[none,some Ti,some Ti],⟨[(0,.mw 0)],[(0,.sl 3 Ti)]⟩,1,⟨[(0,.mw 0),(1000000,.c .b)],[(0,.sl 3 Ti)]⟩,1,1,λx=>kcv x.1 x.2.1 x.2.2,false⟩
theorem keB:slices_partialInsertionSortOrdered_int_m0_M.ok=true/\GoodM Tryz.prog 143 slices_partialInsertionSortOrdered_int_m0_M:=
 kap Tryz.func143 (by kernel_rfl) (An:=[(0,⟨⟨[(8,.c Ti),(7,.c Ti)],[(0,.sl 3 Ti)]⟩,⟨[],[(0,.sl 3 Ti)]⟩,[2,1],[],2,true,""⟩),(8,⟨⟨[(7,.c Ti)],[]⟩,⟨[(7,.c Ti)],[]⟩,[8],[0],1,false,""⟩),(245,⟨⟨[],[(0,.sl 3 Ti)]⟩,⟨[],[(0,.sl 3 Ti)]⟩,[7,8],[],2,false,""⟩),(16,⟨⟨[(9,.c Ti)],[(0,.sl 3 Ti)]⟩,⟨[],[(0,.sl 3 Ti)]⟩,[],[],2,false,""⟩),(24,⟨⟨[(10,.c Ti)],[(0,.sl 3 Ti)]⟩,⟨[],[(0,.sl 3 Ti)]⟩,[8,7],[],3,false,""⟩)]) [(144,kcp)] (.cons kbY <| .nil) (λx=>by kernel_rfl)
theorem slices_partialInsertionSortOrdered_int_C_ok:Good Tryz.prog 143 kbm:=good_dm
def kcq:Ctr:=kbm.w slices_partialInsertionSortOrdered_int_m0_M
theorem keW:Good Tryz.prog 143 kcq:=(slices_partialInsertionSortOrdered_int_C_ok.more keB)
def slices_partitionEqualOrdered_int_m0_M:CtrM:=⟨ "",[none,some Ti,some Ti,some Ti],⟨[(0,.mw 0)],[(0,.sl 3 Ti)]⟩,1,⟨[(0,.mw 0),(1000000,.c Ti)],[(0,.sl 3 Ti)]⟩,1,1,λx=>kdi x.1 x.2.1 x.2.2.1 x.2.2.2,false⟩
theorem kfR:slices_partitionEqualOrdered_int_m0_M.ok=true/\GoodM Tryz.prog 145 slices_partitionEqualOrdered_int_m0_M:=
 kap Tryz.func145 (by kernel_rfl) (An:=[(0,⟨⟨[(9,.c Ti),(10,.c Ti)],[(0,.sl 3 Ti)]⟩,⟨[(9,.c Ti)],[(0,.sl 3 Ti)]⟩,[1],[],2,false,""⟩),(8,⟨⟨[(9,.c Ti)],[]⟩,⟨[(9,.c Ti)],[]⟩,[10],[0],1,false,""⟩),(16,⟨⟨[(10,.c Ti)],[]⟩,⟨[(10,.c Ti)],[]⟩,[9],[0],1,false,""⟩)]) [(144,kcp)] (.cons kbY <| .nil) (λx=>by kernel_rfl)
theorem slices_partitionEqualOrdered_int_C_ok:Good Tryz.prog 145 kbm:=good_dm
def kdf:Ctr:=kbm.w slices_partitionEqualOrdered_int_m0_M
theorem kga:Good Tryz.prog 145 kdf:=(slices_partitionEqualOrdered_int_C_ok.more kfR)
def slices_partitionOrdered_int_m0_M:CtrM:=⟨ "",[none,some Ti,some Ti,some Ti],⟨[(0,.mw 0)],[(0,.sl 3 Ti)]⟩,1,⟨[(0,.mw 0),(1000000,.c Ti),(1000001,.c .b)],[(0,.sl 3 Ti)]⟩,1,2,λx=>keY x.1 x.2.1 x.2.2.1 x.2.2.2,false⟩
theorem khd:slices_partitionOrdered_int_m0_M.ok=true/\GoodM Tryz.prog 146 slices_partitionOrdered_int_m0_M:=
 kap Tryz.func146 (by kernel_rfl) (An:=[(0,⟨⟨[(10,.c Ti)],[]⟩,⟨[(10,.c Ti)],[]⟩,[11,1],[0],1,false,""⟩),(8,⟨⟨[(11,.c Ti)],[]⟩,⟨[(11,.c Ti)],[]⟩,[10,1],[0],1,false,""⟩),(16,⟨⟨[(10,.c Ti),(11,.c Ti)],[(0,.sl 3 Ti)]⟩,⟨[(11,.c Ti)],[(0,.sl 3 Ti)]⟩,[1],[],2,false,""⟩),(24,⟨⟨[(10,.c Ti)],[]⟩,⟨[(10,.c Ti)],[]⟩,[11],[0],1,false,""⟩),(32,⟨⟨[(11,.c Ti)],[]⟩,⟨[(11,.c Ti)],[]⟩,[10],[0],1,false,""⟩)]) [(144,kcp)] (.cons kbY <| .nil) (λx=>by kernel_rfl)
theorem slices_partitionOrdered_int_C_ok:Good Tryz.prog 146 kbm:=good_dm
def kew:Ctr:=kbm.w slices_partitionOrdered_int_m0_M
theorem khB:Good Tryz.prog 146 kew:=(slices_partitionOrdered_int_C_ok.more khd)
def kcu (k:Nat):CtrM:=⟨ "",[none,some (.i .i64),some (.i .i64),some (.i .i64)],⟨[(0,.mw 0)],[(0,.sl 3 (.i .i64))]⟩,1,⟨[(0,.mw 0)],[(0,.sl 3 (.i .i64))]⟩,1,0,λx=>kcy k x.1 x.2.1 x.2.2.1 x.2.2.2,false⟩
theorem kei:∀ k,(kcu k).ok=true/\GoodM Tryz.prog 135 (kcu k)
 | 0=>kjf (by kernel_rfl) (λx=>rfl)
 | k+1=>kap Tryz.func135 (by kernel_rfl) (An:=[(0,⟨⟨[(2,.c (.i .i64)),(1,.c (.i .i64)),(3,.c (.i .i64)),(8,.c .b),(9,.c .b)],[(0,.sl 3 (.i .i64))]⟩,⟨[],[(0,.sl 3 (.i .i64))]⟩,[],[],1,true,""⟩),(141,⟨⟨[],[(0,.sl 3 (.i .i64))]⟩,⟨[(3,.c (.i .i64))],[(0,.sl 3 (.i .i64))]⟩,[1,2,8,9,10],[],2,false,""⟩),(201,⟨⟨[],[(0,.sl 3 (.i .i64))]⟩,⟨[(12,.c (.i .i64)),(11,.c (.i .i64))],[(0,.sl 3 (.i .i64))]⟩,[1,2,8,9,3,10],[],3,false,""⟩),(62,⟨⟨[],[]⟩,⟨[(68,.c .b)],[]⟩,[8,9,12,1,2,11,3,10],[0],3,false,""⟩),(273,⟨⟨[],[(0,.sl 3 (.i .i64))]⟩,⟨[],[(0,.sl 3 (.i .i64))]⟩,[1,2,11,3,8,9,10],[],4,true,""⟩),(70,⟨⟨[],[]⟩,⟨[(87,.c .b)],[]⟩,[1,11,2,3,8,9,10],[0],4,false,""⟩)]) ((135,⟨ "",[],[],λ_=>none,[kcu k],[]⟩)::[(146,kew),(145,kdf),(143,kcq),(142,kdF),(140,kdk),(139,keN),(138,kdm),(141,kev),(144,kcp)]) (.cons (good_dm.more (kei k)) <| .cons khB <| .cons kga <| .cons keW <| .cons kgH <| .cons kgt <| .cons khR <| .cons kgn <| .cons khA <| .cons kbY <| .nil) (λx=>by kernel_rfl)
def slices_pdqsortOrdered_int_m0_M:CtrM:=⟨ "",[none,some Ti,some Ti,some Ti],⟨[(0,.mw 0)],[(0,.sl 3 Ti)]⟩,1,⟨[(0,.mw 0)],[(0,.sl 3 Ti)]⟩,1,0,λx=>kfz x.1 x.2.1 x.2.2.1 x.2.2.2,false⟩
theorem khF:slices_pdqsortOrdered_int_m0_M.ok=true/\GoodM Tryz.prog 135 slices_pdqsortOrdered_int_m0_M:=kei 1000000
theorem slices_pdqsortOrdered_int_C_ok:Good Tryz.prog 135 kbm:=good_dm
def kfm:Ctr:=kbm.w slices_pdqsortOrdered_int_m0_M
theorem kio:Good Tryz.prog 135 kfm:=(slices_pdqsortOrdered_int_C_ok.more khF)
def slices_Sort_s_int_int_m0_M:CtrM:=⟨ "",[none],⟨[(0,.mw 0)],[(0,.sl 3 Ti)]⟩,1,⟨[(0,.mw 0)],[(0,.sl 3 Ti)]⟩,1,0,λx=>kgK x,false⟩
theorem kjy:slices_Sort_s_int_int_m0_M.ok=true/\GoodM Tryz.prog 130 slices_Sort_s_int_int_m0_M:=
 kap Tryz.func130 (by kernel_rfl) (An:=[]) [(135,kfm),(136,kji)] (.cons kio <| .cons kkv <| .nil) (λx=>by kernel_rfl)
theorem slices_Sort_s_int_int_C_ok:Good Tryz.prog 130 kbm:=good_dm
def kgz:Ctr:=kbm.w slices_Sort_s_int_int_m0_M
theorem kjM:Good Tryz.prog 130 kgz:=(slices_Sort_s_int_int_C_ok.more kjy)
def slices_Sorted_int_m0_M:CtrM:=⟨ "",[none],⟨[(0,.fn 131 [.ptr 0 0])],[(0,.bx 31 [.c Tk])]⟩,1,⟨[(1000000,.mw 1)],[(1,.sl 3 Ti)]⟩,2,1,λx=>kjv x,false⟩
theorem kld:slices_Sorted_int_m0_M.ok=true/\GoodM Tryz.prog 117 slices_Sorted_int_m0_M:=
 kap Tryz.func117 (by kernel_rfl) (An:=[]) [(130,kgz),(129,khG),(131,kaN)] (.cons kjM <| .cons kle <| .cons kaV <| .nil) (λx=>by kernel_rfl)
theorem slices_Sorted_int_C_ok:Good Tryz.prog 117 kbm:=good_dm
def kiE:Ctr:=kbm.w slices_Sorted_int_m0_M
theorem klD:Good Tryz.prog 117 kiE:=(slices_Sorted_int_C_ok.more kld)
def ksK:Ctr:=⟨ "",[Tk,Ti],[.b],λx=>kvw x.1 x.2,[],[]⟩
theorem kve:Good Tryz.prog 88 ksK:=
 kad Tryz.func88 (by kernel_rfl) (An:=[(0,⟨⟨[(11,.c Ti)],[]⟩,⟨[],[]⟩,[10,9,0,1],[1],2,true,""⟩)]) [(117,kiE),(118,kfI),(131,kaN)] (.cons klD <| .cons kjn <| .cons kaV <| .nil) (λx=>by kernel_rfl)
def klC:Ctr:=⟨ "",[Tk,(.pt Ti)],[.b],λx=>kns x.1 x.2,[],[]⟩
theorem koG:Good Tryz.prog 115 klC:=
 kad Tryz.func115 (by kernel_rfl) (An:=[]) [(88,ksK)] (.cons kve <| .nil) (λx=>by kernel_rfl)
def keq:Ctr:=⟨ "",[(.sl Tk),(.fn 1 Tk .b)],[Ti],λx=>keQ x.1 x.2,[],[]⟩
theorem khi:Good Tryz.prog 126 keq:=
 kad Tryz.func126 (by kernel_rfl) (An:=[(0,⟨⟨[(8,.c Ti)],[]⟩,⟨[],[]⟩,[7,1,0],[],0,true,""⟩)]) [] (.nil) (λx=>by kernel_rfl)
def kdl:Ctr:=⟨ "",[(.sl Tk),(.fn 1 Tk .b)],[.b],λx=>kdX x.1 x.2,[],[]⟩
theorem kgv:Good Tryz.prog 114 kdl:=
 kad Tryz.func114 (by kernel_rfl) (An:=[]) [(126,keq)] (.cons khi <| .nil) (λx=>by kernel_rfl)
def kom:Ctr:=⟨ "",[(.sl Tk)],[.b],λx=>kqS x,[],[]⟩
theorem krI:Good Tryz.prog 83 kom:=
 kad Tryz.func83 (by kernel_rfl) (An:=[]) [(114,kdl),(115,klC),(66,keX)] (.cons kgv <| .cons koG <| .cons kdp <| .nil) (λx=>by kernel_rfl)
def kkT:Ctr:=⟨ "",[(.i .u32),(.i .u32)],[(.i .u32),(.i .u32)],λx=>ksg x.1 x.2,[],[]⟩
theorem kod:Good Tryz.prog 127 kkT:=
 kad Tryz.func127 (by kernel_rfl) (An:=[]) [] (.nil) (λx=>by kernel_rfl)
def kkW:Ctr:=⟨ "",[(.i .u64),(.i .u64)],[(.i .u64),(.i .u64)],λx=>kmt x.1 x.2,[],[]⟩
theorem koe:Good Tryz.prog 128 kkW:=
 kad Tryz.func128 (by kernel_rfl) (An:=[]) [] (.nil) (λx=>by kernel_rfl)
def kmh:Ctr:=⟨ "",[(.i .u64),(.i .u64)],[(.i .u64),(.i .u64)],λx=>koA x.1 x.2,[],[]⟩
theorem kpl:Good Tryz.prog 116 kmh:=
 kad Tryz.func116 (by kernel_rfl) (An:=[]) [(128,kkW),(127,kkT)] (.cons koe <| .cons kod <| .nil) (λx=>by kernel_rfl)
def kkY:Ctr:=⟨ "",[Ti,(.pt Tk)],[.b],λx=>kmu x.1 x.2,[],[]⟩
theorem knX:Good Tryz.prog 87 kkY:=
 kad Tryz.func87 (by kernel_rfl) (An:=[]) [] (.nil) (λx=>by kernel_rfl)
def knc:Ctr:=⟨ "",[Ti,(.pt (.sl Tk)),(.pt Tk)],[Ti],λx=>kgS x.1 x.2.1 x.2.2,[],[]⟩
theorem kqr:Good Tryz.prog 85 knc:=
 kad Tryz.func85 (by kernel_rfl) (An:=[]) [(87,kkY),(86,kcU)] (.cons knX <| .cons keu <| .nil) (λx=>by kernel_rfl)
def slices_Repeat_s_int_int_m0_M:CtrM:=⟨ "",[some Tk,some Ti],⟨[],[]⟩,0,⟨[(1000000,.mw 0)],[(0,.sl 3 Ti)]⟩,1,1,λx=>kgg x.1 x.2,false⟩
theorem kiL:slices_Repeat_s_int_int_m0_M.ok=true/\GoodM Tryz.prog 84 slices_Repeat_s_int_int_m0_M:=
 kap Tryz.func84 (by kernel_rfl) (An:=[(41,⟨⟨[],[]⟩,⟨[],[]⟩,[0,1],[],1,false,""⟩),(18,⟨⟨[],[]⟩,⟨[(26,.c .b)],[]⟩,[5,6,0],[],1,false,""⟩),(105,⟨⟨[],[]⟩,⟨[],[]⟩,[6,0],[],1,false,""⟩),(0,⟨⟨[(8,.c Ti),(7,.mw 1)],[(1,.sl 3 Ti)]⟩,⟨[(7,.mw 2)],[(2,.sl 3 Ti)]⟩,[],[],3,false,""⟩)]) [(116,kmh)] (.cons kpl <| .nil) (λx=>by kernel_rfl)
theorem slices_Repeat_s_int_int_B32_ok:Good Tryz.prog 84 kbm:=good_dm
def kfL:Ctr:=kbm.w slices_Repeat_s_int_int_m0_M
theorem kjj:Good Tryz.prog 84 kfL:=(slices_Repeat_s_int_int_B32_ok.more kiL)
def kqP:Ctr:=⟨ "",[(.sl Tk)],[Tk,Ti],λx=>kuw x,[],[]⟩
theorem ktm:Good Tryz.prog 35 kqP:=
 kad Tryz.func35 (by kernel_rfl) (An:=[(0,⟨⟨[(25,.c Ti),(4,.ptr 5 0),(5,.fn 85 [.ptr 0 0,.ptr 5 0])],[(5,.bx 31 [.mw 3]),(3,.sl 3 Ti)]⟩,⟨[(4,.ptr 6 0)],[(6,.bx 31 [.mw 7]),(7,.sl 3 Ti)]⟩,[24,1],[0],8,false,""⟩),(8,⟨⟨[(4,.ptr 5 0),(5,.fn 85 [.ptr 0 0,.ptr 5 0])],[(5,.bx 31 [.mw 3]),(3,.sl 3 Ti)]⟩,⟨[(4,.ptr 6 0),(5,.fn 85 [.ptr 0 0,.ptr 6 0])],[(6,.bx 31 [.mw 7]),(7,.sl 3 Ti)]⟩,[6,25],[],8,false,""⟩),(16,⟨⟨[(36,.c Ti),(7,.c Ti)],[]⟩,⟨[(7,.c Ti)],[]⟩,[35,5,4],[5,3],6,false,""⟩),(24,⟨⟨[(9,.c Ti),(8,.mw 6)],[(6,.sl 3 Ti)]⟩,⟨[(8,.mw 7)],[(7,.sl 3 Ti)]⟩,[7,5,4],[5,3],8,false,""⟩),(32,⟨⟨[(59,.c Ti),(10,.mw 8)],[(8,.sl 3 Ti)]⟩,⟨[(10,.mw 9)],[(9,.sl 3 Ti)]⟩,[58,57,5,8,4],[7,5,3],10,false,""⟩),(40,⟨⟨[(72,.c Ti),(4,.ptr 5 0),(5,.fn 85 [.ptr 0 0,.ptr 5 0])],[(5,.bx 31 [.mw 3]),(3,.sl 3 Ti)]⟩,⟨[(4,.ptr 10 0),(5,.fn 85 [.ptr 0 0,.ptr 10 0])],[(10,.bx 31 [.mw 11]),(11,.sl 3 Ti)]⟩,[71,70,10],[7,9],12,false,""⟩)]) [(84,kfL),(85,knc),(83,kom)] (.cons kjj <| .cons kqr <| .cons krI <| .nil) (λx=>by kernel_rfl)
def kkV:Ctr:=⟨ "",[Tj,Tj],[.b],λx=>kmp x.1 x.2,[],[]⟩
theorem knW:Good Tryz.prog 16 kkV:=
 kad Tryz.func16 (by kernel_rfl) (An:=[(0,⟨⟨[(5,.c Ti)],[]⟩,⟨[],[]⟩,[0,1],[],0,true,""⟩)]) [] (.nil) (λx=>by kernel_rfl)
def kim:Ctr:=⟨ "",[Tk,Tk],[.b],λx=>kbu x.1 x.2,[],[]⟩
theorem kjE:Good Tryz.prog 41 kim:=
 kad Tryz.func41 (by kernel_rfl) (An:=[(0,⟨⟨[(5,.c Ti)],[]⟩,⟨[],[]⟩,[0,1],[],0,true,""⟩)]) [] (.nil) (λx=>by kernel_rfl)
def knj:Ctr:=⟨ "",[],[.b],λx=>kpc,[],[]⟩
theorem kqo:Good Tryz.prog 13 knj:=
 kad Tryz.func13 (by kernel_rfl) (An:=[]) [(8000013,kbm),(8000017,kbm),(8000019,kbm),(8000036,kbm),(8000042,kbm),(8000044,kbm),(8000049,kbm),(8000050,kbm),(8000051,kbm),(8000052,kbm),(8000062,kbm),(8000078,kbm),(8000089,kbm),(8000103,kbm),(8000123,kbm),(41,kim),(16,kkV),(35,kqP),(28,kpC),(46,koo),(23,koT),(19,knQ),(45,kpP),(44,knr),(15,kuy),(43,kiP)] (.cons kay <| .cons kay <| .cons kay <| .cons kay <| .cons kay <| .cons kay <| .cons kay <| .cons kay <| .cons kay <| .cons kay <| .cons kay <| .cons kay <| .cons kay <| .cons kay <| .cons kay <| .cons kjE <| .cons knW <| .cons ktm <| .cons ksZ <| .cons krv <| .cons kpt <| .cons kol <| .cons ksr <| .cons kqn <| .cons kvK <| .cons kju <| .nil) (λx=>by kernel_rfl)
def koy:Ctr:=⟨ "",[],[.b],λx=>law08_alive,[],[]⟩
theorem krs:Good Tryz.prog 13 koy:=by
 have h:=kqo;unfold knj at h;rw [kBk] at h;exact h
def ked:Ctr:=⟨ "",[Ti,Ti,Ti],[.b],λx=>kbL x.1 x.2.1 x.2.2,[],[]⟩
theorem kdJ:Good Tryz.prog 63 ked:=
 kad Tryz.func63 (by kernel_rfl) (An:=[]) [] (.nil) (λx=>by kernel_rfl)
def koW:Ctr:=⟨ "",[Tj],[.b],λx=>kjs x,[],[]⟩
theorem ksV:Good Tryz.prog 49 koW:=
 kad Tryz.func49 (by kernel_rfl) (An:=[(0,⟨⟨[(4,.c Ti),(3,.c Ti)],[]⟩,⟨[(3,.c Ti)],[]⟩,[0],[],0,false,""⟩)]) [(63,ked)] (.cons kdJ <| .nil) (λx=>by kernel_rfl)
def kpJ:Ctr:=⟨ "",[(.sl Tj)],[.b],λx=>klb x,[],[]⟩
theorem kss:Good Tryz.prog 14 kpJ:=
 kad Tryz.func14 (by kernel_rfl) (An:=[(0,⟨⟨[(7,.c Ti)],[]⟩,⟨[],[]⟩,[6,5],[],0,true,""⟩)]) [(49,koW)] (.cons ksV <| .nil) (λx=>by kernel_rfl)
def kjL:Ctr:=⟨ "",[Ti,(.i .u8)],[.b],λx=>kem x.1 x.2,[],[]⟩
theorem kkZ:Good Tryz.prog 62 kjL:=
 kad Tryz.func62 (by kernel_rfl) (An:=[]) [(63,ked)] (.cons kdJ <| .nil) (λx=>by kernel_rfl)
def knk:Ctr:=⟨ "",[Ti,(.i .u8),Ti,(.i .u8)],[.b],λx=>kgN x.1 x.2.1 x.2.2.1 x.2.2.2,[],[]⟩
theorem kqC:Good Tryz.prog 64 knk:=
 kad Tryz.func64 (by kernel_rfl) (An:=[]) [] (.nil) (λx=>by kernel_rfl)
def kkH:Ctr:=⟨ "",[Tj],[.b],λx=>kfc x,[],[]⟩
theorem kma:Good Tryz.prog 56 kkH:=
 kad Tryz.func56 (by kernel_rfl) (An:=[(0,⟨⟨[(3,.c Ti)],[]⟩,⟨[],[]⟩,[0],[],0,true,""⟩)]) [(64,knk),(62,kjL),(63,ked)] (.cons kqC <| .cons kkZ <| .cons kdJ <| .nil) (λx=>by kernel_rfl)
def kkG:Ctr:=⟨ "",[(.sl tSwap)],[.b],λx=>kgl x,[],[]⟩
theorem klA:Good Tryz.prog 57 kkG:=
 kad Tryz.func57 (by kernel_rfl) (An:=[(0,⟨⟨[(3,.c Ti)],[]⟩,⟨[],[]⟩,[0],[],0,true,""⟩)]) [(62,kjL)] (.cons kkZ <| .nil) (λx=>by kernel_rfl)
def koj:Ctr:=⟨ "",[Tj,Tj,(.sl tSwap)],[.b],λx=>kke x.1 x.2.1 x.2.2,[],[]⟩
theorem krj:Good Tryz.prog 18 koj:=
 kad Tryz.func18 (by kernel_rfl) (An:=[]) [(57,kkG),(56,kkH),(14,kpJ)] (.cons klA <| .cons kma <| .cons kss <| .nil) (λx=>by kernel_rfl)
def kmB:Ctr:=⟨ "",[(.sl tSwap),Ti,(.i .u8),Ti,(.i .u8)],[.b],λx=>kfa x.1 x.2.1 x.2.2.1 x.2.2.2.1 x.2.2.2.2,[],[]⟩
theorem kmY:Good Tryz.prog 61 kmB:=
 kad Tryz.func61 (by kernel_rfl) (An:=[(6,⟨⟨[],[]⟩,⟨[(19,.c .b)],[]⟩,[1,3,2,4,0],[],0,false,""⟩),(0,⟨⟨[(11,.c Ti)],[]⟩,⟨[],[]⟩,[0,1,2,3,4],[],0,true,""⟩)]) [] (.nil) (λx=>by kernel_rfl)
def kqN:Ctr:=⟨ "",[Tj],[Ti],λx=>kkF x,[],[]⟩
theorem kub:Good Tryz.prog 21 kqN:=
 kad Tryz.func21 (by kernel_rfl) (An:=[(0,⟨⟨[(8,.c Ti),(3,.c Ti)],[]⟩,⟨[(3,.c Ti)],[]⟩,[7,6],[],0,false,""⟩)]) [] (.nil) (λx=>by kernel_rfl)
def kmx:Ctr:=⟨ "",[Tj,Tj,(.sl tSwap),(.sl (.pr Ti (.pr Ti Ti)))],[.b],λx=>kdw x.1 x.2.1 x.2.2.1 x.2.2.2,[],[]⟩
theorem koL:Good Tryz.prog 24 kmx:=
 kad Tryz.func24 (by kernel_rfl) (An:=[(6,⟨⟨[],[]⟩,⟨[(9,.mw 0),(10,.mw 1)],[(0,.sl 3 Ti),(1,.sl 3 Ti)]⟩,[1,0,3,2],[],2,false,""⟩),(0,⟨⟨[(11,.c Ti),(9,.mw 0),(10,.mw 1)],[(0,.sl 3 Ti),(1,.sl 3 Ti)]⟩,⟨[],[]⟩,[3,1,0,2],[],2,true,""⟩),(34,⟨⟨[],[]⟩,⟨[(85,.c .b)],[]⟩,[11,12,9,10],[2,0,1],3,false,""⟩)]) [(61,kmB),(63,ked)] (.cons kmY <| .cons kdJ <| .nil) (λx=>by kernel_rfl)
def kpW:Ctr:=⟨ "",[Tj,(.sl (.pr Ti (.pr Ti Ti)))],[Tk],λx=>keI x.1 x.2,[],[]⟩
theorem ksP:Good Tryz.prog 25 kpW:=
 kad Tryz.func25 (by kernel_rfl) (An:=[(0,⟨⟨[(13,.c Ti),(5,.mw 1)],[(1,.sl 3 Ti)]⟩,⟨[(5,.mw 2)],[(2,.sl 3 Ti)]⟩,[12,11],[],3,false,""⟩)]) [] (.nil) (λx=>by kernel_rfl)
def kgU:Ctr:=⟨ "",[Tk,Ti],[Ti],λx=>kfd x.1 x.2,[],[]⟩
theorem kkE:Good Tryz.prog 112 kgU:=
 kad Tryz.func112 (by kernel_rfl) (An:=[(0,⟨⟨[(8,.c Ti)],[]⟩,⟨[],[]⟩,[7,1,0],[],0,true,""⟩)]) [] (.nil) (λx=>by kernel_rfl)
def kfK:Ctr:=⟨ "",[Tk,Ti],[.b],λx=>kbB x.1 x.2,[],[]⟩
theorem kiT:Good Tryz.prog 81 kfK:=
 kad Tryz.func81 (by kernel_rfl) (An:=[]) [(112,kgU)] (.cons kkE <| .nil) (λx=>by kernel_rfl)
def kmz:Ctr:=⟨ "",[Tj,Tj,(.sl tSwap),(.sl (.pr Ti (.pr Ti Ti)))],[Ti,Ti],λx=>keF x.1 x.2.1 x.2.2.1 x.2.2.2,[],[]⟩
theorem kpD:Good Tryz.prog 32 kmz:=
 kad Tryz.func32 (by kernel_rfl) (An:=[(0,⟨⟨[(33,.c Ti),(13,.mw 0)],[(0,.sl 3 Ti)]⟩,⟨[(13,.mw 1)],[(1,.sl 3 Ti)]⟩,[32,31,3,1,0,10,12],[],2,false,""⟩),(8,⟨⟨[(46,.c Ti),(12,.c Ti)],[]⟩,⟨[(12,.c Ti)],[]⟩,[45,44,1,0,10,13,3],[1],2,true,""⟩),(0,⟨⟨[(33,.c Ti),(13,.mw 4)],[(4,.sl 3 Ti)]⟩,⟨[(13,.mw 5)],[(5,.sl 3 Ti)]⟩,[32,31,3,1,0,10,12],[0,1,2,3],6,false,""⟩),(8,⟨⟨[(46,.c Ti),(10,.ptr 0 0),(13,.mw 5),(12,.c Ti)],[(0,.bx 134 [.c Tj,.mw 1,.fw 2,.mw 3]),(3,.sl 3 Ti),(5,.sl 3 Ti)]⟩,⟨[(12,.c Ti)],[]⟩,[45,44,1,0,3],[1,2],6,true,""⟩),(62,⟨⟨[],[]⟩,⟨[(125,.c .b)],[]⟩,[16,17,13,10,12,46],[6,5,0,3],7,false,""⟩)]) [(58,kgO),(81,kfK),(77,kiW),(78,kdN),(66,keX)] (.cons kgy <| .cons kiT <| .cons kiQ <| .cons kdP <| .cons kdp <| .nil) (λx=>by kernel_rfl)
def ksl:Ctr:=⟨ "",[Tj,Tj,(.sl tSwap),Tk],[(.sl (.pr Ti (.pr Ti Ti))),Ti],λx=>kgP x.1 x.2.1 x.2.2.1 x.2.2.2,[],[]⟩
theorem kvb:Good Tryz.prog 40 ksl:=
 kad Tryz.func40 (by kernel_rfl) (An:=[(0,⟨⟨[(38,.c Ti)],[]⟩,⟨[],[]⟩,[37,36,1,3,10],[],1,true,""⟩),(8,⟨⟨[(54,.c Ti)],[]⟩,⟨[],[]⟩,[53,52,10],[],1,true,""⟩),(0,⟨⟨[(38,.c Ti)],[]⟩,⟨[],[]⟩,[37,36,1,3,10],[1,2,3,4],5,true,""⟩),(8,⟨⟨[(54,.c Ti),(10,.ptr 1 0)],[(1,.bx 134 [.c Tj,.mw 2,.fw 3,.mw 4]),(2,.sl 31 Tk),(3,.fm 31 Tk 0 3 Ti),(4,.sl 3 Ti)]⟩,⟨[(10,.ptr 5 0)],[(5,.bx 134 [.c Tj,.mw 6,.fw 7,.mw 8]),(6,.sl 31 Tk),(7,.fm 31 Tk 0 3 Ti),(8,.sl 3 Ti)]⟩,[53,52],[],9,true,""⟩),(16,⟨⟨[(71,.c Ti),(16,.mw 9)],[(9,.sl 90 (.pr Ti (.pr Ti Ti)))]⟩,⟨[(16,.mw 10)],[(10,.sl 90 (.pr Ti (.pr Ti Ti)))]⟩,[70,69],[7],11,false,""⟩),(24,⟨⟨[(78,.c Ti),(16,.mw 9)],[(9,.sl 90 (.pr Ti (.pr Ti Ti)))]⟩,⟨[(16,.mw 10)],[(10,.sl 90 (.pr Ti (.pr Ti Ti)))]⟩,[77,76,17,71],[],11,false,""⟩)]) [(58,kgO),(59,kfW),(66,keX)] (.cons kgy <| .cons kgq <| .cons kdp <| .nil) (λx=>by kernel_rfl)
def kkA:Ctr:=⟨ "",[(.sl tSwap)],[Ti],λx=>keo x,[],[]⟩
theorem kmU:Good Tryz.prog 119 kkA:=
 kad Tryz.func119 (by kernel_rfl) (An:=[]) [(57,kkG)] (.cons klA <| .nil) (λx=>by kernel_rfl)
def kop:Ctr:=⟨ "",[Tj,Tj,(.sl tSwap)],[Ti],λx=>kkk x.1 x.2.1 x.2.2,[],[]⟩
theorem krC:Good Tryz.prog 90 kop:=
 kad Tryz.func90 (by kernel_rfl) (An:=[]) [(119,kkA),(56,kkH)] (.cons kmU <| .cons kma <| .nil) (λx=>by kernel_rfl)
def ref08_begun_m0_M:CtrM:=⟨ "",[some Tj,some Tj,some (.sl tSwap)],⟨[],[]⟩,0,⟨[(1000000,.ag [.mw 0,.fw 1,.mw 2])],[(0,.sl 103 (.sl .b)),(1,.fm 31 Tk 0 3 Ti),(2,.sl 3 Ti)]⟩,3,1,λx=>khf x.1 x.2.1 x.2.2,false⟩
theorem koE:ref08_begun_m0_M.ok=true/\GoodM Tryz.prog 91 ref08_begun_m0_M:=
 kap Tryz.func91 (by kernel_rfl) (An:=[(0,⟨⟨[(8,.c Ti),(7,.ptr 7 0)],[(7,.bx 144 [.mw 4,.fw 5,.mw 6]),(4,.sl 103 (.sl .b)),(5,.fm 31 Tk 0 3 Ti)]⟩,⟨[(7,.ptr 8 0)],[(8,.bx 144 [.mw 9,.fw 10,.mw 6]),(9,.sl 103 (.sl .b)),(10,.fm 31 Tk 0 3 Ti)]⟩,[1,0,2,6],[6,3,0,1,2],11,false,""⟩),(8,⟨⟨[(10,.c Ti),(9,.mw 8)],[(8,.sl 4 .b)]⟩,⟨[(9,.mw 9)],[(9,.sl 4 .b)]⟩,[8,7],[7,4,5],10,false,""⟩),(16,⟨⟨[(11,.c Ti),(7,.ptr 8 0)],[(8,.bx 144 [.mw 9,.fw 10,.mw 6]),(6,.sl 3 Ti)]⟩,⟨[(7,.ptr 11 0)],[(11,.bx 144 [.mw 9,.fw 10,.mw 12]),(12,.sl 3 Ti)]⟩,[0,6],[9,10,3,0,1,2],13,false,""⟩)]) [(4144000,kbm),(7000063,kbm),(6000007,kbm),(61,kmB)] (.cons kay <| .cons kay <| .cons kay <| .cons kmY <| .nil) (λx=>by kernel_rfl)
theorem ref08_begun_B34_ok:Good Tryz.prog 91 kbm:=good_dm
def kmv:Ctr:=kbm.w ref08_begun_m0_M
theorem kpk:Good Tryz.prog 91 kmv:=(ref08_begun_B34_ok.more koE)
def kiq (k:Nat):CtrM:=⟨ "",[none,some (.i .i64),none],⟨[(0,.ag [.mw 0,.fw 1,.mw 2]),(2,.mw 3)],[(0,.sl 103 (.sl .b)),(1,.fm 31 (.sl (.i .i64)) 0 3 (.i .i64)),(2,.sl 3 (.i .i64)),(3,.sl 4 .b)]⟩,4,⟨[(2,.mw 3),(1000000,.c .b)],[(3,.sl 4 .b),(0,.sl 103 (.sl .b)),(1,.fm 31 (.sl (.i .i64)) 0 3 (.i .i64)),(2,.sl 3 (.i .i64))]⟩,4,1,λx=>kcE k x.1 x.2.1 x.2.2.1 x.2.2.2.1 x.2.2.2.2,false⟩
theorem kkQ:∀ k,(kiq k).ok=true/\GoodM Tryz.prog 120 (kiq k)
 | 0=>kjf (by kernel_rfl) (λx=>rfl)
 | k+1=>kap Tryz.func120 (by kernel_rfl) (An:=[(0,⟨⟨[(7,.c (.i .i64)),(3,.ptr 4 0)],[(4,.bx 144 [.mw 0,.fw 1,.mw 2]),(0,.sl 103 (.sl .b)),(1,.fm 31 (.sl (.i .i64)) 0 3 (.i .i64)),(2,.sl 3 (.i .i64)),(3,.sl 4 .b)]⟩,⟨[],[(3,.sl 4 .b),(2,.sl 3 (.i .i64)),(0,.sl 103 (.sl .b)),(1,.fm 31 (.sl (.i .i64)) 0 3 (.i .i64))]⟩,[1],[],9,true,""⟩),(8,⟨⟨[(8,.c (.i .i64)),(3,.ptr 4 0)],[(4,.bx 144 [.mw 0,.fw 1,.mw 2]),(0,.sl 103 (.sl .b)),(1,.fm 31 (.sl (.i .i64)) 0 3 (.i .i64)),(2,.sl 3 (.i .i64)),(3,.sl 4 .b)]⟩,⟨[(3,.ptr 5 0)],[(5,.bx 144 [.mw 0,.fw 1,.mw 2]),(0,.sl 103 (.sl .b)),(1,.fm 31 (.sl (.i .i64)) 0 3 (.i .i64)),(2,.sl 3 (.i .i64)),(3,.sl 4 .b)]⟩,[7],[],10,true,""⟩)]) ((120,⟨ "",[],[],λ_=>none,[kiq k],[]⟩)::[]) (.cons (good_dm.more (kkQ k)) <| .nil) (λx=>by kernel_rfl)
def ref08_more_m0_M:CtrM:=⟨ "",[none,some Ti,none],⟨[(0,.ag [.mw 0,.fw 1,.mw 2]),(2,.mw 3)],[(0,.sl 103 (.sl .b)),(1,.fm 31 Tk 0 3 Ti),(2,.sl 3 Ti),(3,.sl 4 .b)]⟩,4,⟨[(2,.mw 3),(1000000,.c .b)],[(3,.sl 4 .b),(0,.sl 103 (.sl .b)),(1,.fm 31 Tk 0 3 Ti),(2,.sl 3 Ti)]⟩,4,1,λx=>kkI x.1 x.2.1 x.2.2.1 x.2.2.2.1 x.2.2.2.2,false⟩
theorem kpf:ref08_more_m0_M.ok=true/\GoodM Tryz.prog 120 ref08_more_m0_M:=kkQ 1000000
theorem ref08_more_C_ok:Good Tryz.prog 120 kbm:=good_dm
def knh:Ctr:=kbm.w ref08_more_m0_M
theorem kqv:Good Tryz.prog 120 knh:=(ref08_more_C_ok.more kpf)
def ref08_got_m0_M:CtrM:=⟨ "",[none,some Ti,some Ti],⟨[(0,.ag [.mw 0,.fw 1,.mw 2])],[(0,.sl 103 (.sl .b)),(1,.fm 31 Tk 0 3 Ti),(2,.sl 3 Ti)]⟩,3,⟨[(1000000,.c Ti)],[(0,.sl 103 (.sl .b)),(1,.fm 31 Tk 0 3 Ti),(2,.sl 3 Ti)]⟩,3,1,λx=>kjo x.1 x.2.1 x.2.2.1 x.2.2.2.1 x.2.2.2.2,false⟩
theorem kqq:ref08_got_m0_M.ok=true/\GoodM Tryz.prog 92 ref08_got_m0_M:=
 kap Tryz.func92 (by kernel_rfl) (An:=[(0,⟨⟨[(7,.c Ti),(3,.ptr 3 0)],[(3,.bx 144 [.mw 0,.fw 1,.mw 2]),(0,.sl 103 (.sl .b)),(1,.fm 31 Tk 0 3 Ti),(2,.sl 3 Ti)]⟩,⟨[(7,.c Ti)],[(1,.fm 31 Tk 0 3 Ti),(0,.sl 103 (.sl .b)),(2,.sl 3 Ti)]⟩,[2,1],[],7,false,""⟩)]) [(120,knh)] (.cons kqv <| .nil) (λx=>by kernel_rfl)
theorem ref08_got_C_ok:Good Tryz.prog 92 kbm:=good_dm
def kow:Ctr:=kbm.w ref08_got_m0_M
theorem krZ:Good Tryz.prog 92 kow:=(ref08_got_C_ok.more kqq)
def kjI:Ctr:=⟨ "",[Tj,Tj,(.sl tSwap),Tk],[Ti],λx=>kdC x.1 x.2.1 x.2.2.1 x.2.2.2,[],[]⟩
theorem kmN:Good Tryz.prog 42 kjI:=
 kad Tryz.func42 (by kernel_rfl) (An:=[(0,⟨⟨[(10,.c Ti)],[]⟩,⟨[],[]⟩,[3,1,0,2],[],0,true,""⟩),(8,⟨⟨[(12,.c Ti),(11,.ptr 6 0)],[(6,.bx 144 [.mw 0,.fw 1,.mw 2]),(0,.sl 103 (.sl .b)),(1,.fm 31 Tk 0 3 Ti),(2,.sl 3 Ti)]⟩,⟨[],[]⟩,[3],[],7,true,""⟩)]) [(91,kmv),(92,kow),(90,kop),(63,ked)] (.cons kpk <| .cons krZ <| .cons krC <| .cons kdJ <| .nil) (λx=>by kernel_rfl)
def ksu:Ctr:=⟨ "",[Tj,Tj,(.sl tSwap),Tj,Tk],[.b],λx=>kkO x.1 x.2.1 x.2.2.1 x.2.2.2.1 x.2.2.2.2,[],[]⟩
theorem law08_BoxUsed_C_ok:Good Tryz.prog 11 ksu:=
 kad Tryz.func11 (by kernel_rfl) (An:=[(257,⟨⟨[],[]⟩,⟨[],[]⟩,[4,1,0,2,14,12,3,11,15],[1],2,true,""⟩),(0,⟨⟨[(156,.c Ti),(22,.c Ti)],[]⟩,⟨[(22,.c Ti)],[]⟩,[155,154,11,12,18,1],[1,4],5,false,""⟩)]) [(42,kjI),(40,ksl),(32,kmz),(25,kpW),(24,kmx),(21,kqN),(18,koj),(13,koy),(41,kim),(23,koT),(19,knQ)] (.cons kmN <| .cons kvb <| .cons kpD <| .cons ksP <| .cons koL <| .cons kub <| .cons krj <| .cons krs <| .cons kjE <| .cons kpt <| .cons kol <| .nil) (λx=>by kernel_rfl)
end Go.Abs
namespace Go.Abs
open Go
abbrev It:=Int×Int×Int
def vP (x:It):Bool:=decide (0<=x.1)&&decide (x.1<=15)&&decide (x.2.1<=15)
def ltI (x y:It):Bool:=decide (x.1<y.1)||(x.1==y.1&&decide (x.2.1<y.2.1))
def okN (x:It):Bool:=decide (1<=x.2.2)&&decide (x.2.2<=1000)
def badI (l:Ya It) (i:Nat) (x:It):Bool:=!vP x||(decide (0<i)&&!ltI ((l[i-1]?).getD x) x)
def ordI (a b:Int×Int):Int:=if a.1<b.1 then -1 else if b.1<a.1 then 1 else if a.2<b.2 then -1 else if b.2<a.2 then 1 else 0
def stk (l:Ya It):Bool:=decide (l.length<=30)&&!(l.zipIdx.any λx=>badI l x.2 x.1)&&l.all okN
@[simp] theorem kgA (n lo hi:Int):kbL n lo hi=some (decide (lo<=n)&&decide (n<=hi)):=by
 unfold kbL; by_cases h:lo<=n <;> simp [h]
@[simp] theorem kxX (lo hi n:Int):kbW lo hi n=some (decide (lo<=n)&&decide (n<=hi)):=by
 unfold kbW; by_cases h:lo<=n <;> simp [h]
@[simp] theorem khz (x:It):kcs (x.1,x.2.1)=some (vP x):=by
 unfold kcs vP;by_cases a:0<=x.1 <;> by_cases h2:x.1<=15 <;> simp [a,h2]
@[simp] theorem kmo (x:It):kem x.1 x.2.1=some (vP x):=by
 unfold kem vP;by_cases a:0<=x.1 <;> by_cases h2:x.1<=15 <;> simp [a,h2]
@[simp] theorem ktf (x y:It):kgN x.1 x.2.1 y.1 y.2.1=some (ltI x y):=by
 unfold kgN ltI;by_cases a:x.1<y.1
 ·simp [a]
 ·by_cases h2:x.1=y.1 <;> simp [a,h2]
def cmpI (a b:Int):Int:=if a<b then -1 else if b<a then 1 else 0
@[simp] theorem ksq (a b:Int):kbo a b=some (cmpI a b):=by
 unfold kbo keH cmpI;by_cases c:a<b <;> by_cases h2:b<a <;> simp [c,h2]
@[simp] theorem kzZ (a b:Int):kbo a b=some (cmpI a b):=by
 unfold kbo keH cmpI;by_cases c:a<b <;> by_cases h2:b<a <;> simp [c,h2]
@[simp] theorem kus (a b:Int):kfU [a,b]=some (if a≠0 then a else b):=by
 unfold kfU;rw [kcB (F:=kif [a,b]) [a,b] (by simp) (λi x=>if x != 0 then some x else none) (λi hi=>by
  unfold kif;have h2:i<2:=by simpa using hi
  rw [if_pos (by rw [kac]; simp; omega),kan hi,kah (by omega)];simp only [jaa];by_cases h:([a,b][i] != 0)=true <;> simp [h,nextL]) (by unfold kif; rw [if_neg (by simp [kac])])]
 simp only [jbj,List.zipIdx_nil,jcv,List.findSome?_nil];by_cases c:a=0
 ·by_cases e:b=0 <;> simp [c,e,endL]
 ·simp [c,endL]
theorem klY (a b:Int×Int):kfH a b=some (ordI a b):=by
 unfold kfH ordI;simp only [ksq,kzZ,jaa,kus,cmpI];by_cases c:a.1<b.1
 ·simp [c]
 ·by_cases h2:b.1<a.1 <;> simp [c,h2]
theorem kxZ (x y:It):decide (0<=ordI (x.1,x.2.1) (y.1,y.2.1)) = !ltI x y:=by
 unfold ordI ltI;by_cases a:x.1<y.1
 ·simp [a]
 ·by_cases h2:y.1<x.1
  ·simp [a,h2]; omega
  ·have b:x.1=y.1:=by omega
   by_cases c:x.2.1<y.2.1
   ·simp [a,h2,b,c]
   ·by_cases e:y.2.1<x.2.1 <;> simp [a,h2,b,c,e]
theorem kCC {α:Type} (p q:α->Bool) (l:Ya α):(l.any λx=>p x||q x)=(l.any p||l.any q):=by
 induction l with
 | nil=>rfl
 | cons x l a=>simp only [jdr,a]; cases p x <;> cases q x <;> simp
theorem kye {α:Type} (q:α->Bool):∀ (l:Ya α) (k:Nat),((l.zipIdx k).any λx=>q x.1)=l.any q
 | [],k=>rfl
 | x::l,k=>by rw [jbj,jdr,jdr,kye q l (k+1)]
theorem koY {l:Ya It} {i:Nat} (hi:i<l.length) (x:It):(l[i-1]?).getD x=l[i-1]:=by rw [jae (by omega)]; rfl
theorem ktJ (l:Ya It) (hl:l.length<=1000):kdS l 30 (λu=>(kbC u).bind λv=>some v)=some (!(l.zipIdx.any λx=>badI l x.2 x.1)&&decide (l.length<=30)):=by
 unfold kdS;rw [kiG (F:=kcI l _) false l (by omega) (badI l) (λi hi=>?_) (by unfold kcI; rw [if_neg (by simp [kac])])]
 ·by_cases h:(l.zipIdx.any λx=>badI l x.2 x.1)=true
  rotate_left
  ·rw [jbk] at h;simp only [h,jaf,if_false,jaa,jcl,jef,kac];congr 2; simp only [eq_iff_iff]; omega
  ·simp [h]
 ·unfold kcI;rw [if_pos (by rw [kac]; simpa using hi),kan hi,kah (by omega)];simp only [jaa,kbC,khz,badI];by_cases a:vP l[i]=true
  rotate_left
  ·rw [jbk] at a; simp [a]
  ·simp only [a,jbt,jaf,if_false,jcn];by_cases b:0<i
   ·rw [if_pos (by simpa using b),koX b (by omega),kan (by omega)];simp only [jaa,klY,kxZ,koY hi,b,decide_true,jef];by_cases c:ltI l[i-1] l[i]=true <;> simp [c]
   ·have:i=0:=by omega
    subst this; simp
theorem kqm {α:Type} (p:α->Bool) (l:Ya α):(l.any λx=>!p x) = !l.all p:=by
 induction l with
 | nil=>rfl
 | cons x l a=>simp only [jdr,jea,a,Bool.not_and]
theorem kxz (l:Ya It) (hl:l.length<=1000) (p:It->Bool):kaB l (λx=>some (p x))=some (l.any p):=by
 unfold kaB kbM;rw [kcB (F:=kaP l _) l (by omega) (λi x=>if p x then some (i:Int) else none) (λi hi=>by
  unfold kaP;rw [if_pos (by rw [kac]; simpa using hi),kan hi,kah (by omega)];simp only [jaa];by_cases h:p l[i]=true <;> simp [h,nextL]) (by unfold kaP; rw [if_neg (by simp [kac])])]
 have:∀ (l:Ya It) (k:Nat),endL ((l.zipIdx k).findSome? λx=>if p x.1 then some (x.2:Int) else none)=(if l.any p then .inl ((k:Int)+(l.findIdx p:Nat)) else .inr ()):=by
  intro l;induction l with
  | nil=>intro k; rfl
  | cons x l a=>
   intro k;rw [jbj,jcv,jdr,List.findIdx_cons];cases hp:p x with
   | true=>simp [endL]
   | false=>
    simp only [jaf,if_false,jcn,cond_false];rw [a (k+1)];congr 2; push_cast; omega
 rw [this l 0];by_cases h:l.any p=true <;> simp [h]
theorem kvQ (l:Ya It) (hl:l.length<=1000):kkq l=some (if stk l then 0 else 8):=by
 unfold kkq;rw [ktJ l hl];have e:(λc:It=>(kjb c).bind λf=>some f)=λu=>some (!okN u):=by
  funext u; simp [kjb,okN]
 rw [e,kxz l hl,kqm];simp only [jaa,stk];by_cases a:(l.zipIdx.any λx=>badI l x.2 x.1)=true <;> by_cases h2:l.length<=30 <;> by_cases b:l.all okN=true <;> (try rw [jbk] at a) <;> (try rw [jbk] at b) <;> simp only [a,h2,b] <;> rfl
theorem kjS (l:Ya It):kfc l=some (stk l):=by
 unfold kfc stk;rw [kac];by_cases hl:(30:Int)<l.length
 ·rw [if_pos (by simpa using hl)];have:¬ l.length<=30:=by omega
  simp [this]
 ·rw [if_neg (by simpa using hl)];have c:l.length<=30:=by omega
  rw [kiG (F:=khn l) false l (by omega) (λi x=>badI l i x||!okN x) (λi hi=>?_) (by unfold khn; rw [if_neg (by simp [kac])])]
  ·rw [kCC (λx:It×Nat=>badI l x.2 x.1) (λx=>!okN x.1),kye (λx=>!okN x),kqm];by_cases e:(l.zipIdx.any λx=>badI l x.2 x.1)=true <;> by_cases h2:l.all okN=true <;> simp [c,e,h2]
  ·unfold khn;rw [if_pos (by rw [kac]; simpa using hi),kan hi,kah (by omega)];simp only [jaa,kmo,badI,kgA];rw [show (decide (1<=l[i].2.2)&&decide (l[i].2.2<=1000))=okN l[i] from rfl];by_cases a:vP l[i]=true
   rotate_left
   ·rw [jbk] at a; simp [a]
   ·by_cases hn:okN l[i]=true
    rotate_left
    ·rw [jbk] at hn; simp [a,hn]
    ·simp only [a,hn,jbt,jaf,if_false,jcn,Bool.or_false];by_cases b:0<i
     ·rw [if_pos (by simpa using b),koX b (by omega),kan (by omega)];simp only [jaa,koY hi,b,decide_true,jef];rw [show kgN l[i-1].1 l[i-1].2.1 l[i].1 l[i].2.1=_ from ktf l[i-1] l[i]];simp only [jaa];by_cases f:ltI l[i-1] l[i]=true <;> simp [f]
     ·have:i=0:=by omega
      subst this; simp
end Go.Abs
namespace Go.Abs.Fl
open Go Go.Abs
def sumN (f:Nat->Int):Nat->Int
 | 0=>0
 | n+1=>sumN f n+f n
theorem kak {f g:Nat->Int}:∀ {n:Nat},(∀ i,i<n->f i=g i)->sumN f n=sumN g n
 | 0,_=>rfl
 | n+1,h=>by simp only [sumN]; rw [kak λi hi=>h i (by omega),h n (by omega)]
theorem kdj {f:Nat->Int}:∀ {n:Nat},(∀ i,i<n->0<=f i)->0<=sumN f n
 | 0,_=>jcu 0
 | n+1,h=>by
  have:=kdj (f:=f) (n:=n) λi hi=>h i (by omega);have:=h n (by omega);simp only [sumN]; omega
theorem ksx {f:Nat->Int}:∀ {n:Nat},(∀ i,i<n->0<=f i)->sumN f n<=0->∀ i,i<n->f i=0
 | 0,_,_,i,hi=>by omega
 | n+1,h,e,i,hi=>by
  have a:=kdj (f:=f) (n:=n) λi hi=>h i (by omega);have h2:=h n (by omega);simp only [sumN] at e;by_cases hn:i=n
  ·subst hn; show f i=0; omega
  ·exact ksx (f:=f) (n:=n) (λi hi=>h i (by omega)) (by omega) i (by omega)
theorem kro (f g:Nat->Int):∀ n:Nat,sumN (λi=>f i+g i) n=sumN f n+sumN g n
 | 0=>rfl
 | n+1=>by simp only [sumN]; rw [kro f g n]; omega
theorem kfM (f g:Nat->Int):∀ n:Nat,sumN (λi=>f i-g i) n=sumN f n-sumN g n
 | 0=>rfl
 | n+1=>by simp only [sumN]; rw [kfM f g n]; omega
theorem kdA:∀ n:Nat,sumN (λ_=>0) n=0
 | 0=>rfl
 | n+1=>by simp only [sumN]; rw [kdA n]; rfl
theorem kpB (f:Nat->Nat->Int) (m:Nat):∀ n:Nat,sumN (λi=>sumN (f i) m) n=sumN (λj=>sumN (λi=>f i j) n) m
 | 0=>by simp only [sumN]; rw [kdA]
 | n+1=>by simp only [sumN]; rw [kpB f m n,<-kro]
theorem kBa (b:Bool) (f:Nat->Int) (n:Nat):(if b=true then sumN f n else 0)=sumN (λi=>if b=true then f i else 0) n:=by
 cases b
 ·simp [kdA]
 ·simp
theorem kdu {f g:Nat->Int} {i:Nat} {d:Int} (h:g i=f i+d):∀ {n:Nat},i<n->(∀ j,j<n->j≠i->g j=f j)->sumN g n=sumN f n+d
 | 0,hi,_=>by omega
 | n+1,hi,ho=>by
  simp only [sumN];by_cases e:i=n
  ·subst e;rw [kak (f:=g) (g:=f) λj a=>ho j (by omega) (by omega),h]; omega
  ·rw [kdu h (n:=n) (by omega) λj a hn=>ho j (by omega) hn,ho n (by omega) (by omega)]; omega
theorem kwE {f:Nat->Int}:∀ {n:Nat},(∀ i,i<n->0<=f i)->∀ {i:Nat},i<n->f i<=sumN f n
 | 0,_,i,hi=>by omega
 | n+1,h,i,hi=>by
  have a:=kdj (f:=f) (n:=n) λi hi=>h i (by omega);have h2:=h n (by omega);simp only [sumN];by_cases hn:i=n
  ·subst hn; omega
  ·have:=kwE (λi hi=>h i (by omega)) (n:=n) (i:=i) (by omega); omega
section
variable (n m:Nat) (cap:Nat->Int) (may:Nat->Nat->Prop)
structure Val (u:Nat->Nat->Int) (l:Nat->Int):Prop where
 nn:∀ k,k<n->∀ j,j<m->0<=u k j
 ok:∀ k,k<n->∀ j,j<m->0<u k j->may k j
 ln:∀ j,j<m->0<=l j
 bal:∀ j,j<m->l j+sumN (λk=>u k j) n=cap j
structure Sat (u:Nat->Nat->Int) (l:Nat->Int) (S:Nat->Bool):Prop where
 z:∀ k,k<n->S k=true->∀ j,j<m->may k j->l j=0
 c:∀ k,k<n->S k=true->∀ j,j<m->may k j->∀ k',k'<n->0<u k' j->S k'=true
end
def row (m:Nat) (u:Nat->Nat->Int) (k:Nat):Int:=sumN (u k) m
variable {n m:Nat} {cap:Nat->Int} {may:Nat->Nat->Prop} {u u':Nat->Nat->Int} {l l':Nat->Int} {S T:Nat->Bool}
theorem kqj (v:Val n m cap may u l) (hT:∀ k,k<n->S k=true->∀ j,j<m->may k j->T j=true) :
  sumN (λk=>if S k=true then row m u k else 0) n=sumN (λj=>if T j=true then sumN (λk=>if S k=true then u k j else 0) n else 0) m:=by
 rw [kak (f:=λk=>if S k=true then row m u k else 0) (g:=λk=>sumN (λj=>if S k=true then u k j else 0) m) λk a=>kBa (S k) (u k) m];rw [kpB];apply kak;intro j b;by_cases t:T j=true
 ·rw [if_pos t]
 ·rw [if_neg t,kak (g:=λ_=>0) λk a=>?_,kdA];by_cases s:S k=true
  ·rw [if_pos s];by_cases hp:0<u k j
   ·exact absurd (hT k a s j b (v.ok k a j b hp)) t
   ·have:=v.nn k a j b; omega
  ·rw [if_neg s]
theorem kru (v:Val n m cap may u l) (o:Val n m cap may u' l') (s:Sat n m may u l S) (h:∀ k,k<n->S k=true->row m u k<=row m u' k) :
  Sat n m may u' l' S/\∀ k,k<n->S k=true->row m u k=row m u' k:=by
 classical
 obtain ⟨T,hT⟩:∃ T:Nat->Bool,∀ j,T j=true↔∃ k,k<n/\S k=true/\may k j:=⟨λj=>decide (∃ k,k<n/\S k=true/\may k j),λj=>by simp⟩;have hT1:∀ k,k<n->S k=true->∀ j,j<m->may k j->T j=true:=λk b e j _ p=>(hT j).2 ⟨k,b,e,p⟩;have D:=kqj v hT1;have H:=kqj o hT1;have E:sumN (λj=>if T j=true then sumN (λk=>if S k=true then u k j else 0) n else 0) m=sumN (λj=>if T j=true then cap j else 0) m:=by
  apply kak;intro j a;by_cases t:T j=true
  ·rw [if_pos t,if_pos t];obtain ⟨k,b,e,p⟩:=(hT j).1 t;rw [<-v.bal j a,s.z k b e j a p,Int.zero_add];apply kak;intro w g;by_cases s':S w=true
   ·rw [if_pos s']
   ·rw [if_neg s'];by_cases hp:0<u w j
    ·exact absurd (s.c k b e j a p w g hp) s'
    ·have:=v.nn w g j a; omega
  ·rw [if_neg t,if_neg t]
 have G:sumN (λj=>if T j=true then sumN (λk=>if S k=true then u' k j else 0) n else 0) m
   = sumN (λj=>if T j=true then cap j else 0) m-sumN (λj=>if T j=true then l' j+sumN (λk=>if S k=true then 0 else u' k j) n else 0) m:=by
  rw [<-kfM];apply kak;intro j a;by_cases t:T j=true
  ·simp only [if_pos t];rw [<-o.bal j a];have:sumN (λk=>u' k j) n=sumN (λk=>if S k=true then u' k j else 0) n+sumN (λk=>if S k=true then 0 else u' k j) n:=by
    rw [<-kro];apply kak;intro k b;by_cases s':S k=true
    ·simp [s']
    ·simp [s']
   omega
  ·simp only [if_neg t]; rfl
 have nB:∀ j,j<m->0<=(if T j=true then l' j+sumN (λk=>if S k=true then 0 else u' k j) n else 0):=by
  intro j a;split
  ·have y:=o.ln j a;have h2:=kdj (f:=λk=>if S k=true then 0 else u' k j) (n:=n) λk b=>by
    show 0<=if S k=true then 0 else u' k j;split
    ·omega
    ·exact o.nn k b j a
   omega
  ·omega
 have nA:∀ k,k<n->0<=(if S k=true then row m u' k else 0)-(if S k=true then row m u k else 0):=by
  intro k b;by_cases s':S k=true
  ·simp only [if_pos s']; have:=h k b s'; omega
  ·simp only [if_neg s']; omega
 have sA:=kdj nA;have sB:=kdj nB;have F:=kfM (λk=>if S k=true then row m u' k else 0) (λk=>if S k=true then row m u k else 0) n;have zA:=ksx nA (by omega);have zB:=ksx nB (by omega);refine ⟨⟨?_,?_⟩,?_⟩
 ·intro k b e j a p;have:=zB j a;rw [if_pos (hT1 k b e j a p)] at this;have y:=o.ln j a;have h2:=kdj (f:=λk=>if S k=true then 0 else u' k j) (n:=n) λk b=>by
   show 0<=if S k=true then 0 else u' k j;split
   ·omega
   ·exact o.nn k b j a
  omega
 ·intro k b e j a p w g hp;have:=zB j a;rw [if_pos (hT1 k b e j a p)] at this;have y:=o.ln j a;have A:∀ k,k<n->0<=(λk=>if S k=true then 0 else u' k j) k:=λk b=>by
   show 0<=if S k=true then 0 else u' k j;split
   ·omega
   ·exact o.nn k b j a
  have h2:=kdj A;have C:=ksx A (by omega) w g;by_cases s':S w=true
  ·exact s'
  ·simp only [if_neg s'] at C; omega
 ·intro k b e;have:=zA k b;simp only [if_pos e] at this; omega
theorem ktA (v:Val n m cap may u l) (a:Val n m cap may u' l') (s:Sat n m may u l S) {i:Nat} (hi:i<n) (b:S i=true) (h:∀ k,k<n->k≠i->row m u k<=row m u' k):row m u' i<=row m u i:=by
 by_cases c:row m u' i<=row m u i
 ·exact c
 ·have:=(kru v a s λk f hS=>by
   by_cases e:k=i
   ·subst e; omega
   ·exact h k f e).2 i hi b
  omega
theorem Val.take (v:Val n m cap may u l) {i j:Nat} {d:Int} (hi:i<n) (t:j<m) (y:may i j) (z:0<=d) (hl:d<=l j)
  (w:l' j=l j-d) (h2:u' i j=u i j+d) (p:∀ b,b<m->b≠j->l' b=l b) (o:∀ k,k<n->∀ b,b<m->¬ (k=i/\b=j)->u' k b=u k b) :
  Val n m cap may u' l'/\row m u' i=row m u i+d/\∀ k,k<n->k≠i->row m u' k=row m u k:=by
 refine ⟨⟨?_,?_,?_,?_⟩,?_,?_⟩
 ·intro k c b a;by_cases e:k=i/\b=j
  ·obtain ⟨rfl,rfl⟩:=e; rw [h2]; have:=v.nn k c b a; omega
  ·rw [o k c b a e]; exact v.nn k c b a
 ·intro k c b a hp;by_cases e:k=i/\b=j
  ·obtain ⟨rfl,rfl⟩:=e; exact y
  ·rw [o k c b a e] at hp; exact v.ok k c b a hp
 ·intro b a;by_cases e:b=j
  ·subst e; omega
  ·rw [p b a e]; exact v.ln b a
 ·intro b a;by_cases e:b=j
  ·subst e;rw [<-v.bal b a,w,kdu (f:=λk=>u k b) (g:=λk=>u' k b) (i:=i) (d:=d) h2 hi λk c hn=>o k c b a (by omega)]; omega
  ·rw [<-v.bal b a,p b a e,kak λk c=>o k c b a (by omega)]
 ·exact kdu h2 t λb a hn=>o i hi b a (by omega)
 ·intro k c hn;exact kak λb a=>o k c b a (by omega)
theorem Val.swap (v:Val n m cap may u l) {i k j:Nat} {d:Int} (hi:i<n) (C:k<n) (z:j<m) (G:may i j) (H:0<=d) (hl:d<=u k j) (D:k≠i)
  (E:u' k j=u k j-d) (h2:u' i j=u i j+d) (t:∀ p,p<n->∀ c,c<m->¬ (p=i/\c=j)->¬ (p=k/\c=j)->u' p c=u p c) :
  Val n m cap may u' l/\row m u' i=row m u i+d/\row m u' k=row m u k-d/\∀ p,p<n->p≠i->p≠k->row m u' p=row m u p:=by
 refine ⟨⟨?_,?_,v.ln,?_⟩,?_,?_,?_⟩
 ·intro a o c b;by_cases e:a=i/\c=j
  ·obtain ⟨rfl,rfl⟩:=e; rw [h2]; have:=v.nn a o c b; omega
  ·by_cases y:a=k/\c=j
   ·obtain ⟨rfl,rfl⟩:=y; rw [E]; omega
   ·rw [t a o c b e y]; exact v.nn a o c b
 ·intro a o c b hp;by_cases e:a=i/\c=j
  ·obtain ⟨rfl,rfl⟩:=e; exact G
  ·by_cases y:a=k/\c=j
   ·obtain ⟨rfl,rfl⟩:=y; exact v.ok a o c b (by omega)
   ·rw [t a o c b e y] at hp; exact v.ok a o c b hp
 ·intro c b;by_cases e:c=j
  ·subst e;rw [<-v.bal c b];let w:Nat->Int:=λa=>if a=i then u i c+d else u a c
   have I:sumN w n=sumN (λa=>u a c) n+d:=kdu (i:=i) (by simp [w]) hi λa o hn=>by simp [w,hn]
   have y:sumN (λa=>u' a c) n=sumN w n+(-d):=kdu (i:=k) (by simp only [w,if_neg D]; omega) C λa o hn=>by
    by_cases A:a=i
    ·subst A; simp only [w,if_true]; exact h2
    ·simp only [w,if_neg A]; exact t a o c b (by omega) (by omega)
   omega
  ·rw [<-v.bal c b,kak λa o=>t a o c b (by omega) (by omega)]
 ·exact kdu h2 z λc b hn=>t i hi c b (by omega) (by omega)
 ·have:=kdu (f:=u k) (g:=u' k) (i:=j) (d:=-d) (by omega) z λc b hn=>t k C c b (by omega) (by omega);unfold row; omega
 ·intro a o hn F;exact kak λc b=>t a o c b (by omega) (by omega)
inductive Rch (n m:Nat) (may:Nat->Nat->Prop) (u:Nat->Nat->Int) (L:Nat->Prop):Nat->Prop
 | base {i:Nat}:i<n->L i->Rch n m may u L i
 | step {i j k:Nat}:Rch n m may u L i->j<m->may i j->k<n->0<u k j->Rch n m may u L k
theorem Rch.lt {L:Nat->Prop} {i:Nat} (h:Rch n m may u L i):i<n:=by cases h <;> assumption
theorem iter_inv {α β:Type} {F:α->Yb (α⊕β)} (I:α->Prop) (m:α->Nat) (R:β->Prop)
  (h:∀ x,I x->(∃ z,F x=some (.inr z)/\R z)\/∃ y,F x=some (.inl y)/\I y/\m y<m x) (x:α) (a:I x) (b:m x<18446744073709551616):∃ z,iter F x=some z/\R z:=by
 have:∀ n x,I x->m x<n->∃ z,itN F n x=some z/\R z:=by
  intro n;induction n with
  | zero=>intro x _ o; omega
  | succ n g=>
   intro x a b;rcases h x a with ⟨z,e,hz⟩ | ⟨y,e,c,f⟩
   ·exact ⟨z,kck e,hz⟩
   ·rw [kid e]; exact g y c (by omega)
 obtain ⟨z,e,hz⟩:=this 18446744073709551616 x a b;exact ⟨z,kfy e (jah _),hz⟩
def ua (U:Ya (Ya Int)) (k j:Nat):Int:=(U.getD k []).getD j 0
def la (L:Ya Int) (j:Nat):Int:=L.getD j 0
def sa (s:Ya Bool) (j:Nat):Bool:=s.getD j false
def upd (U:Ya (Ya Int)) (k j:Nat) (x:Int):Ya (Ya Int):=U.set k ((U.getD k []).set j x)
structure Shp (n m:Nat) (U:List (List Int)) (L:List Int):Prop where
 u:U.length=n
 r:∀ k,k<n->(U.getD k []).length=m
 l:L.length=m
theorem gi_D {α:Type} {l:Ya α} {i:Nat} (d:α) (h:i<l.length):gi l (i:Int)=some (l.getD i d):=by rw [kan h,jaq,jae h]; rfl
section
variable {n m:Nat} {U:Ya (Ya Int)} {L:Ya Int} {k j:Nat} {x:Int}
theorem Shp.gu (h:Shp n m U L) (a:k<n):gi U (k:Int)=some (U.getD k []):=gi_D [] (by rw [h.u]; exact a)
theorem Shp.guj (h:Shp n m U L) (a:k<n) (b:j<m):gi (U.getD k []) (j:Int)=some (ua U k j):=gi_D 0 (by rw [h.r k a]; exact b)
theorem Shp.gl (h:Shp n m U L) (a:j<m):gi L (j:Int)=some (la L j):=gi_D 0 (by rw [h.l]; exact a)
theorem gs {s:Ya Bool} (a:s.length=m) (b:j<m):gi s (j:Int)=some (sa s j):=gi_D false (by omega)
theorem kvz:lset U (k:Int) (lset (U.getD k []) (j:Int) x)=upd U k j x:=rfl
theorem getD_set {α:Type} {l:Ya α} {i j:Nat} {x d:α} (h:i<l.length):(l.set i x).getD j d=if j=i then x else l.getD j d:=by
 rw [jaq,jaq,jdf];by_cases e:j=i
 ·subst e; simp [h]
 ·rw [if_neg (λh=>e h.symm),if_neg e]
theorem Shp.upd (h:Shp n m U L) (b:k<n) (e:j<m):Shp n m (upd U k j x) L:=by
 refine ⟨by simp [Fl.upd,h.u],λc a=>?_,h.l⟩;unfold Fl.upd;rw [getD_set (by rw [h.u]; exact b)];split
 ·rw [jbs]; exact h.r k b
 ·exact h.r c a
theorem Shp.ua_upd (h:Shp n m U L) (c:k<n) (f:j<m) (a b:Nat):ua (Fl.upd U k j x) a b=if a=k/\b=j then x else ua U a b:=by
 unfold ua Fl.upd;rw [getD_set (by rw [h.u]; exact c)];by_cases e:a=k
 ·subst e;rw [if_pos rfl,getD_set (by rw [h.r _ c]; exact f)];simp
 ·rw [if_neg e,if_neg (λh=>e h.1)]
theorem Shp.setL (h:Shp n m U L):Shp n m U (L.set j x):=⟨h.u,h.r,by simp [h.l]⟩
theorem kcL (b:j<L.length) (a:Nat):la (L.set j x) a=if a=j then x else la L a:=getD_set b
theorem khX {s:Ya Bool} (b:j<s.length) (a:Nat):sa (s.set j true) a=if a=j then true else sa s a:=getD_set b
end
def uns (s:Ya Bool):Nat:=s.countP (λb=>!b)
theorem kqe:∀ {s:Ya Bool} {j:Nat},j<s.length->sa s j=false->uns (s.set j true)+1=uns s
 | [],j,h,_=>by simp at h
 | b::s,0,_,h=>by
  have:b=false:=by simpa [sa] using h
  subst this;simp [uns,List.countP_cons]
 | b::s,j+1,h,h2=>by
  have:=kqe (s:=s) (j:=j) (by simpa using h) (by simpa [sa] using h2);simp only [uns,List.set_cons_succ,List.countP_cons] at this ⊢;omega
theorem kjX:∀ {s s':Ya Bool},s'.length=s.length->(∀ j,sa s j=true->sa s' j=true)->uns s'<=uns s
 | [],[],_,_=>jah _
 | [],_::_,h,_=>by simp at h
 | _::_,[],h,_=>by simp at h
 | b::s,b'::s',h,hm=>by
  have:=kjX (s:=s) (s':=s') (by simpa using h) λj c=>by simpa [sa] using hm (j+1) (by simpa [sa] using c)
  have a:=hm 0;simp only [sa,List.getD_cons_zero] at a;simp only [uns,List.countP_cons] at this ⊢;cases b <;> cases b' <;> simp at a ⊢ <;> omega
section
variable (n m:Nat) (cap:Nat->Int) (may:Nat->Nat->Prop)
def Cl (U:Ya (Ya Int)) (L:Ya Int) (s s':Ya Bool):Prop:=
 ∀ j,j<m->sa s' j=true->sa s j=false->la L j=0/\∀ k,k<n->0<ua U k j->∀ a,a<m->may k a->sa s' a=true
structure Post (i:Nat) (most:Int) (U:List (List Int)) (L:List Int) (s:List Bool) (r:Int) (U':List (List Int)) (L':List Int) (s':List Bool):Prop where
 sh:Shp n m U' L'
 sl:s'.length=m
 mono:∀ j,sa s j=true->sa s' j=true
 v:Val n m cap may (ua U') (la L')
 fr:∀ j,j<m->sa s j=true->la L' j=la L j/\∀ k,k<n->ua U' k j=ua U k j
 r0:0<=r
 r1:r<=most
 ri:row m (ua U') i=row m (ua U) i+r
 ro:∀ k,k<n->k≠i->row m (ua U') k=row m (ua U) k
 z:r=0->U'=U/\L'=L/\(∀ j,j<m->may i j->sa s' j=true)/\Cl n m may U L s s'
end
variable {n m:Nat} {cap:Nat->Int} {may:Nat->Nat->Prop} {U U':Ya (Ya Int)} {L L':Ya Int} {s s' s1 s2:Ya Bool} {i j k:Nat} {most r:Int}
theorem Cl.mono (h:Cl n m may U L s s1) (h2:∀ j,sa s1 j=true->sa s2 j=true):∀ j,j<m->sa s1 j=true->sa s j=false->la L j=0/\∀ k,k<n->0<ua U k j->∀ a,a<m->may k a->sa s2 a=true:=
 λj f c e=>⟨(h j f c e).1,λk o hp a b g=>h2 _ ((h j f c e).2 k o hp a b g)⟩
theorem Cl.trans (h:Cl n m may U L s s1) (h':Cl n m may U L s1 s2) (h2:∀ j,sa s1 j=true->sa s2 j=true):Cl n m may U L s s2:=λj a b c=>by
 cases e:sa s1 j with
 | true=>exact h.mono h2 j a e c
 | false=>exact h' j a b e
theorem Val.le (v:Val n m cap may (ua U) (la L)) (a:k<n) (b:j<m):0<=ua U k j/\ua U k j<=cap j:=by
 have c:=v.bal j b;have h2:=v.ln j b;have e:=kwE (f:=λk=>ua U k j) (λk a=>v.nn k a j b) a;have g:=v.nn k a j b;omega
theorem Val.lle (v:Val n m cap may (ua U) (la L)) (a:j<m):0<=la L j/\la L j<=cap j:=by
 have c:=v.bal j a;have h2:=v.ln j a;have e:=kdj (f:=λk=>ua U k j) (n:=n) (λk b=>v.nn k b j a);omega
theorem kuK (sh:Shp n m U L) (v:Val n m cap may (ua U) (la L)) (hl:s1.length=m) (y:∀ j,sa s j=true->sa s1 j=true) (hi:i<n) (o:j<m) (hn:sa s1 j=false) (A:may i j) {d:Int} (C:0<d) (z:d<=la L j) (h2:d<=most) :
  Post n m cap may i most U L s d (upd U i j (ua U i j+d)) (L.set j (la L j-d)) (s1.set j true):=by
 have w:sa s j=false:=by
  cases e:sa s j with
  | false=>rfl
  | true=>rw [y j e] at hn; cases hn
 have g:j<L.length:=by rw [sh.l]; exact o
 obtain ⟨a,b,c⟩:=v.take (u':=ua (upd U i j (ua U i j+d))) (l':=la (L.set j (la L j-d))) hi o A (by omega:(0:Int)<=d) z (by rw [kcL g,if_pos rfl]) (by rw [sh.ua_upd hi o,if_pos ⟨rfl,rfl⟩])
  (λp _ f=>by rw [kcL g,if_neg f]) (λk _ p _ f=>by rw [sh.ua_upd hi o,if_neg f])
 refine ⟨(sh.upd hi o).setL,by simp [hl],λp t=>?_,a,λp t h=>?_,by omega,h2,b,c,λe=>by omega⟩
 ·rw [khX (by omega)]; split
  ·rfl
  ·exact y p t
 ·have f:p≠j:=by rintro rfl; rw [w] at h; cases h
  refine ⟨by rw [kcL g,if_neg f],λk D=>by rw [sh.ua_upd hi o,if_neg (λh=>f h.2)]⟩
theorem ksX (hp:Post n m cap may k most U L s2 r U' L' s') (hi:i<n) (z:k<n) (o:j<m) (F:sa s j=false) (I:sa s2 j=true) (G:∀ j,sa s j=true->sa s2 j=true) (Q:may i j) (R:0<r) (W:most<=ua U k j) {y:Int} (h2:most<=y) :
  Post n m cap may i y U L s r (upd (upd U' k j (ua U' k j-r)) i j (ua (upd U' k j (ua U' k j-r)) i j+r)) L' s':=by
 have p:=hp.sh.upd z o (x:=ua U' k j-r);have C:∀ f,f<m->sa s f=true->la L' f=la L f/\∀ g,g<n->ua (upd (upd U' k j (ua U' k j-r)) i j (ua (upd U' k j (ua U' k j-r)) i j+r)) g f=ua U g f:=λf E h=>by
  have w:f≠j:=by rintro rfl; rw [F] at h; cases h
  obtain ⟨a,b⟩:=hp.fr f E (G f h);exact ⟨a,λg t=>by rw [p.ua_upd hi o,if_neg (λh=>w h.2),hp.sh.ua_upd z o,if_neg (λh=>w h.2)]; exact b g t⟩
 have J:=(hp.fr j o I).2 k z;have hr:=hp.r1;by_cases e:k=i
 ·subst e;have K:∀ g f,ua (upd (upd U' k j (ua U' k j-r)) k j (ua (upd U' k j (ua U' k j-r)) k j+r)) g f=ua U' g f:=λg f=>by
   rw [p.ua_upd hi o,hp.sh.ua_upd z o,hp.sh.ua_upd z o];by_cases h:g=k/\f=j
   ·obtain ⟨rfl,rfl⟩:=h; simp
   ·rw [if_neg h,if_neg h]
  have P:Val n m cap may (ua (upd (upd U' k j (ua U' k j-r)) k j (ua (upd U' k j (ua U' k j-r)) k j+r))) (la L'):=by
   rw [show ua (upd (upd U' k j (ua U' k j-r)) k j (ua (upd U' k j (ua U' k j-r)) k j+r))=ua U' from funext λg=>funext λf=>K g f];exact hp.v
  have A:∀ g,row m (ua (upd (upd U' k j (ua U' k j-r)) k j (ua (upd U' k j (ua U' k j-r)) k j+r))) g=row m (ua U') g:=λg=>kak λf _=>K g f;exact ⟨p.upd hi o,hp.sl,λf h=>hp.mono f (G f h),P,C,by omega,by omega,by rw [A]; exact hp.ri,λg t w=>by rw [A]; exact hp.ro g t w,λe=>by omega⟩
 ·have w:¬ (i=k/\j=j):=λh=>e h.1.symm;obtain ⟨a,b,c,d⟩:=hp.v.swap (u':=ua (upd (upd U' k j (ua U' k j-r)) i j (ua (upd U' k j (ua U' k j-r)) i j+r))) (i:=i) (k:=k) (j:=j) (d:=r) hi z o Q (by omega) (by omega) e
   (by rw [p.ua_upd hi o,if_neg (λh=>e h.1),hp.sh.ua_upd z o,if_pos ⟨rfl,rfl⟩]) (by rw [p.ua_upd hi o,if_pos ⟨rfl,rfl⟩,hp.sh.ua_upd z o,if_neg w])
   (λg t f E g1 O=>by rw [p.ua_upd hi o,if_neg g1,hp.sh.ua_upd z o,if_neg O])
  refine ⟨p.upd hi o,hp.sl,λf h=>hp.mono f (G f h),a,C,by omega,by omega,?_,λg t D=>?_,λe=>by omega⟩
  ·rw [b,hp.ro i hi (λh=>e h.symm)]
  ·by_cases H:g=k
   ·subst H; rw [c,hp.ri]; omega
   ·rw [d g t D H,hp.ro g t H]
structure MayL (n m:Nat) (may:Nat->Nat->Prop) (M:List (List Int)):Prop where
 l:M.length=n
 s:∀ k,k<n->(M.getD k []).length<=1000
 a:∀ k,k<n->∀ x∈M.getD k [],∃ j,j<m/\x=(j:Int)/\may k j
 b:∀ k,k<n->∀ j,j<m->may k j->(j:Int)∈M.getD k []
theorem ksf {a b:Int} (c:0<a):imin a b<=a/\imin a b<=b/\(0<imin a b↔0<b):=by
 unfold imin; split <;> omega
variable {n m:Nat} {cap:Nat->Int} {may:Nat->Nat->Prop} {M:Ya (Ya Int)} {N:Ya (Int×Int×Int)}
theorem kzG (hM:MayL n m may M) (hn:n<=1000) (hc:∀ j,j<m->cap j<=1000):∀ (g i:Nat) (most:Int) (U:Ya (Ya Int)) (L:Ya Int) (s:Ya Bool),i<n->0<most->Shp n m U L->s.length=m->Val n m cap may (ua U) (la L)->uns s<g->
  ∃ r U' L' s',kbn g (i:Int) most N M U L s=some (r,N,M,U',L',s')/\Post n m cap may i most U L s r U' L' s':=by
 intro g;induction g with
 | zero=>intro i most U L s _ _ _ _ _ h; omega
 | succ g ih=>
  intro i most U L s hi Y sh hs v hf;unfold kbn kiB;have gM:gi M (i:Int)=some (M.getD i []):=gi_D [] (by rw [hM.l]; exact hi);generalize hJ:M.getD i []=J at gM;have hJ1:∀ x∈J,∃ j,j<m/\x=(j:Int)/\may i j:=by rw [<-hJ]; exact hM.a i hi
  have hJ2:∀ j,j<m->may i j->(j:Int)∈J:=by rw [<-hJ]; exact hM.b i hi
  have hJl:J.length<=1000:=by rw [<-hJ]; exact hM.s i hi
  simp only [gM,jaa];let Q:Nat->Ya Bool->Prop:=λt s1=>s1.length=m/\(∀ j,sa s j=true->sa s1 j=true)/\(∀ (t':Nat) (x:Int),t'<t->J[t']?=some x->∀ j:Nat,x=(j:Int)->sa s1 j=true)/\Cl n m may U L s s1
  have key:=iter_inv (F:=kbf (kbn g) (i:Int) most J)
   (λx=>∃ t s1,t<=J.length/\x=((t:Int),s1,N,M,U,L)/\Q t s1) (λx=>J.length-x.1.toNat)
   (λz=>(∃ r U' L' s',z = .inl (r,N,M,U',L',s')/\Post n m cap may i most U L s r U' L' s')\/∃ s1,z = .inr (s1,L,U,N,M)/\Q J.length s1)
   (λx hx=>by
    obtain ⟨t,s1,ht,rfl,R,P,q3,q4⟩:=hx;by_cases D:t<J.length
    ·obtain ⟨j,y,W,H⟩:=hJ1 J[t] (jdk D);have g1:gi J (t:Int)=some (j:Int):=by rw [kan D,W]
     have g2:gi s1 (j:Int)=some (sa s1 j):=gs R y;have g3:=sh.gl y;have g4:=sh.gu hi;have g5:=sh.guj hi y;have hw:w64 ((t:Int)+1)=((t+1:Nat):Int):=kah (by omega);have C:decide ((t:Int)<lenI J)=true:=lenI_lt.2 D;cases w:sa s1 j with
     | true=>
      refine .inr ⟨((t+1:Nat),s1,N,M,U,L),?_,⟨t+1,s1,by omega,rfl,R,P,λt' x G A c o=>?_,q4⟩,by simp only [jal]; omega⟩
      ·unfold kbf;simp only [C,if_true,g1,g2,jaa,w,hw]
      ·by_cases e:t'=t
       ·subst e;rw [jae D,W] at A;cases A;have:j=c:=by omega
        subst this; exact w
       ·exact q3 t' x (by omega) A c o
     | false=>
      obtain ⟨d1,d2,d3⟩:=ksf (b:=la L j) Y;obtain ⟨b1,b2⟩:=v.le hi y;obtain ⟨b3,b4⟩:=v.lle y;have b5:=hc j y;by_cases hd:0<imin most (la L j)
      ·
       have e1:w64 (ua U i j+imin most (la L j))=ua U i j+imin most (la L j):=kaz (by omega) (by omega);have e2:w64 (la L j-imin most (la L j))=la L j-imin most (la L j):=kaz (by omega) (by omega);refine .inl ⟨.inl (imin most (la L j),N,M,upd U i j (ua U i j+imin most (la L j)),L.set j (la L j-imin most (la L j)),s1.set j true),?_,.inl ⟨_,_,_,_,rfl,kuK sh v R P hi y w H hd d2 d1⟩⟩;unfold kbf;simp only [C,if_true,g1,g2,g3,g4,g5,jaa,w,jaf,if_false,decide_eq_true hd,e1,e2];rfl
      ·
       have al:la L j=0:=by
        have:¬ 0<la L j:=λh=>hd (d3.2 h);omega
       have ae:(s1.set j true).length=m:=by simp [R]
       have ap:uns (s1.set j true)<g:=by
        have:=kqe (s:=s1) (j:=j) (by omega) w;have:=kjX (s:=s) (s':=s1) (by rw [R,hs]) P;omega
       have am:sa s j=false:=by
        cases e:sa s j with
        | false=>rfl
        | true=>rw [P j e] at w; cases w
       let Q2:Nat->Ya Bool->Prop:=λk f=>f.length=m/\(∀ c,sa (s1.set j true) c=true->sa f c=true)/\(∀ E,E<k->0<ua U E j->∀ c,c<m->may E c->sa f c=true)/\Cl n m may U L (s1.set j true) f
       have Z:∀ f,(∀ c,sa (s1.set j true) c=true->sa f c=true)->sa f j=true:=λf h=>h j (by rw [khX (by omega)]; simp);have O:∀ f,(∀ c,sa (s1.set j true) c=true->sa f c=true)->∀ c,sa s c=true->sa f c=true:=λf h c o=>h c (by rw [khX (by omega)]; split; rfl; exact P c o);obtain ⟨z,hz,hR⟩:=iter_inv (F:=kbv (kbn g) (i:Int) most ((t:Int),s1,N,M,U,L) (j:Int))
        (λx=>∃ k f,k<=n/\x=((k:Int),N,M,U,L,f)/\Q2 k f) (λx=>n-x.1.toNat)
        (λz=>(∃ r U' L' s',z = .inl (r,N,M,U',L',s')/\Post n m cap may i most U L s r U' L' s')\/∃ f,z = .inr (N,M,U,L,f)/\Q2 n f)
        (λx hx=>by
         obtain ⟨k,f,hk,rfl,p1,p2,p3,p4⟩:=hx;have hlU:lenI U=(n:Int):=by rw [kac,sh.u]
         by_cases p:k<n
         ·have hw:w64 ((k:Int)+1)=((k+1:Nat):Int):=kah (by omega);have X:decide ((k:Int)<lenI U)=true:=by rw [hlU]; simp; omega
          have f1:=sh.gu p;have f2:=sh.guj p y;by_cases ab:ua U k j=0
          ·refine .inr ⟨((k+1:Nat),N,M,U,L,f),?_,⟨k+1,f,by omega,rfl,p1,p2,λE ak hp=>?_,p4⟩,by simp only [jal]; omega⟩
           ·unfold kbv;simp only [X,if_true,f1,f2,jaa,ab,hw];rfl
           ·by_cases e:E=k
            ·subst e; omega
            ·exact p3 E (by omega) hp
          ·have ah:0<ua U k j:=by have:=(v.le p y).1; omega
           obtain ⟨c1,c2,c3⟩:=ksf (b:=ua U k j) Y;obtain ⟨r,U',L',s',K,hp⟩:=ih k (imin most (ua U k j)) U L f p (c3.2 ah) sh p1 v (by
            have:=kjX (s:=s1.set j true) (s':=f) (by rw [p1,ae]) p2;omega)
           have af:(ua U k j==0)=false:=by simp [ab]
           by_cases hr:0<r
           ·have F1:=hp.sh.gu p;have F2:=hp.sh.guj p y;have aa:=hp.sh.upd p y (x:=ua U' k j-r);have F3:=aa.gu hi;have F4:=aa.guj hi y;have B1:=hp.v.le p y;have B2:=hp.v.le hi y;have B3:=hp.r1;have B4:=v.le p y;have E1:w64 (ua U' k j-r)=ua U' k j-r:=kaz (by omega) (by omega);have hb:-10000<=ua (upd U' k j (ua U' k j-r)) i j/\ua (upd U' k j (ua U' k j-r)) i j<=10000:=by
             rw [hp.sh.ua_upd p y]; split <;> omega
            have E2:w64 (ua (upd U' k j (ua U' k j-r)) i j+r)=ua (upd U' k j (ua U' k j-r)) i j+r:=kaz (by omega) (by omega);refine .inl ⟨.inl (r,N,M,upd (upd U' k j (ua U' k j-r)) i j (ua (upd U' k j (ua U' k j-r)) i j+r),L',s'),?_,.inl ⟨_,_,_,_,rfl,ksX hp hi p y am (Z f p2) (O f p2) H hr c2 c1⟩⟩;unfold kbv;simp only [X,if_true,f1,f2,jaa,af,jaf,if_false,K,decide_eq_true hr,F1,F2,E1,kvz,F3,F4,E2]
           ·have an:r=0:=by have:=hp.r0; omega
            obtain ⟨z1,z2,z3,z4⟩:=hp.z an;subst z1 z2;refine .inr ⟨((k+1:Nat),N,M,U',L',s'),?_,⟨k+1,s',by omega,rfl,hp.sl,λc h=>hp.mono c (p2 c h),λE ak ao c o ac=>?_,p4.trans z4 hp.mono⟩,by simp only [jal]; omega⟩
            ·unfold kbv;simp only [X,if_true,f1,f2,jaa,af,jaf,if_false,K,decide_eq_false hr,hw]
            ·by_cases e:E=k
             ·subst e; exact z3 c o ac
             ·exact hp.mono c (p3 E (by omega) ao c o ac)
         ·have aj:¬ decide ((k:Int)<lenI U)=true:=by rw [hlU]; simp; omega
          have:k=n:=by omega
          subst this;refine .inl ⟨.inr (N,M,U,L,f),?_,.inr ⟨f,rfl,p1,p2,p3,p4⟩⟩;unfold kbv;simp only [aj,if_false];rfl)
        (0,N,M,U,L,s1.set j true) ⟨0,s1.set j true,by omega,rfl,ae,λ_ h=>h,λE h=>by omega,λc _ h1 h2=>by rw [h1] at h2; cases h2⟩ (by simp only; omega)
       have ai:decide (0<imin most (la L j))=false:=decide_eq_false hd;have I:lset s1 (j:Int) true=s1.set j true:=rfl;rcases hR with ⟨r,U',L',s',rfl,hp⟩ | ⟨f,rfl,p1,p2,p3,p4⟩
       ·refine .inl ⟨.inl (r,N,M,U',L',s'),?_,.inl ⟨_,_,_,_,rfl,hp⟩⟩;unfold kbf;simp only [C,if_true,g1,g2,g3,jaa,w,jaf,if_false,ai,I,hz]
       ·have ad:∀ c,sa s1 c=true->sa f c=true:=λc h=>p2 c (by rw [khX (by omega)]; split; rfl; exact h);refine .inr ⟨((t+1:Nat),f,N,M,U,L),?_,⟨t+1,f,by omega,rfl,p1,O f p2,λt' x G A c o=>?_,λc o h1 h2=>?_⟩,by simp only [jal]; omega⟩
        ·unfold kbf;simp only [C,if_true,g1,g2,g3,jaa,w,jaf,if_false,ai,I,hz,hw]
        ·by_cases e:t'=t
         ·subst e;rw [jae D,W] at A;cases A;have:j=c:=by omega
          subst this; exact Z f p2
         ·exact ad c (q3 t' x (by omega) A c o)
        ·cases e:sa s1 c with
         | true=>exact q4.mono ad c o e h2
         | false=>
          by_cases e2:c=j
          ·subst e2;exact ⟨al,λk hk hp=>p3 k hk hp⟩
          ·exact p4 c o h1 (by rw [khX (by omega),if_neg e2]; exact e)
    ·have:t=J.length:=by omega
     subst this;refine .inl ⟨.inr (s1,L,U,N,M),?_,.inr ⟨s1,rfl,R,P,q3,q4⟩⟩;unfold kbf;rw [if_neg kbk])
   (0,s,N,M,U,L) ⟨0,s,by omega,rfl,hs,λ_ h=>h,λt' x h=>by omega,λc _ h1 h2=>by rw [h1] at h2; cases h2⟩ (by simp only; omega)
  obtain ⟨z,hz,hR⟩:=key;rw [hz];rcases hR with ⟨r,U',L',s',rfl,hp⟩ | ⟨s1,rfl,R,P,q3,q4⟩
  ·exact ⟨r,U',L',s',rfl,hp⟩
  ·refine ⟨0,U,L,s1,rfl,sh,R,P,v,λ_ _ _=>⟨rfl,λ_ _=>rfl⟩,by omega,by omega,by omega,λ_ _ _=>rfl,λ_=>⟨rfl,rfl,λj y H=>?_,q4⟩⟩;obtain ⟨t',G,e⟩:=jdc.1 (hJ2 j y H);exact q3 t' (j:Int) G (by rw [jae G,e]) j rfl
structure MayB (n m:Nat) (may:Nat->Nat->Prop) (B:List (List Bool)):Prop where
 l:B.length=n
 r:∀ k,k<n->(B.getD k []).length=m
 a:∀ k,k<n->∀ j,j<m->(sa (B.getD k []) j=true↔may k j)
variable {n m:Nat} {cap:Nat->Int} {may:Nat->Nat->Prop} {B:Ya (Ya Bool)}
theorem kAx (hB:MayB n m may B) (hn:n<=1000) (al:m<=1000) (hc:∀ j,j<m->cap j<=1000):∀ (g i:Nat) (U:Ya (Ya Int)) (L:Ya Int) (s:Ya Bool),i<n->Shp n m U L->s.length=m->Val n m cap may (ua U) (la L)->uns s<g->
  ∃ (b:Bool) (U':Ya (Ya Int)) (L':Ya Int) (s':Ya Bool),kcE g (i:Int) B U L s=some (b,s',B,U',L')/\Post n m cap may i 1 U L s (if b=true then 1 else 0) U' L' s':=by
 intro g;induction g with
 | zero=>intro i U L s _ _ _ _ h; omega
 | succ g ih=>
  intro i U L s hi sh hs v hf;unfold kcE kmq;have gB:gi B (i:Int)=some (B.getD i []):=gi_D [] (by rw [hB.l]; exact hi);have hlL:lenI L=(m:Int):=by rw [kac,sh.l]
  let Q:Nat->Ya Bool->Prop:=λt s1=>s1.length=m/\(∀ j,sa s j=true->sa s1 j=true)/\(∀ j,j<t->may i j->sa s1 j=true)/\Cl n m may U L s s1
  have key:=iter_inv (F:=kbK (kcE g) (i:Int))
   (λx=>∃ t s1,t<=m/\x=((t:Int),B,U,L,s1)/\Q t s1) (λx=>m-x.1.toNat)
   (λz=>(∃ U' L' s',z = .inl (true,s',B,U',L')/\Post n m cap may i 1 U L s 1 U' L' s')\/∃ s1,z = .inr (s1,L,B,U)/\Q m s1)
   (λx hx=>by
    obtain ⟨t,s1,ht,rfl,J,H,X,W⟩:=hx;by_cases p:t<m
    ·have g1:gi (B.getD i []) (t:Int)=some (sa (B.getD i []) t):=gi_D false (by rw [hB.r i hi]; exact p);have g2:gi s1 (t:Int)=some (sa s1 t):=gs J p;have g3:=sh.gl p;have g4:=sh.gu hi;have g5:=sh.guj hi p;have Y:w64 ((t:Int)+1)=((t+1:Nat):Int):=kah (by omega);have D:decide ((t:Int)<lenI L)=true:=by rw [hlL]; simp; omega
     cases C:sa (B.getD i []) t with
     | false=>
      refine .inr ⟨((t+1:Nat),B,U,L,s1),?_,⟨t+1,s1,by omega,rfl,J,H,λc o A=>?_,W⟩,by simp only [jal]; omega⟩
      ·unfold kbK;simp only [D,if_true,gB,g1,jaa,C,jcl,Y]
      ·by_cases e:c=t
       ·subst e; rw [(hB.a i hi _ p).2 A] at C; cases C
       ·exact X c (by omega) A
     | true=>
     have I:=(hB.a i hi t p).1 C;cases w:sa s1 t with
     | true=>
      refine .inr ⟨((t+1:Nat),B,U,L,s1),?_,⟨t+1,s1,by omega,rfl,J,H,λc o A=>?_,W⟩,by simp only [jal]; omega⟩
      ·unfold kbK;simp only [D,if_true,gB,g1,g2,jaa,C,w,jbt,jaf,if_false,Y]
      ·by_cases e:c=t
       ·subst e; exact w
       ·exact X c (by omega) A
     | false=>
      obtain ⟨b1,b2⟩:=v.le hi p;obtain ⟨b3,b4⟩:=v.lle p;have b5:=hc t p;by_cases hd:0<la L t
      ·
       have e1:w64 (ua U i t+1)=ua U i t+1:=kaz (by omega) (by omega);have e2:w64 (la L t-1)=la L t-1:=kaz (by omega) (by omega);refine .inl ⟨.inl (true,s1.set t true,B,upd U i t (ua U i t+1),L.set t (la L t-1)),?_,.inl ⟨_,_,_,rfl,kuK sh v J H hi p w I (by omega) (by omega) (by omega)⟩⟩;unfold kbK;simp only [D,if_true,gB,g1,g2,g3,g4,g5,jaa,C,w,jbt,jaf,if_false,decide_eq_true hd,e1,e2];rfl
      ·
       have ah:la L t=0:=by omega
       have ac:(s1.set t true).length=m:=by simp [J]
       have ak:uns (s1.set t true)<g:=by
        have:=kqe (s:=s1) (j:=t) (by omega) w;have:=kjX (s:=s) (s':=s1) (by rw [J,hs]) H;omega
       have ai:sa s t=false:=by
        cases e:sa s t with
        | false=>rfl
        | true=>rw [H t e] at w; cases w
       let Q2:Nat->Ya Bool->Prop:=λk f=>f.length=m/\(∀ c,sa (s1.set t true) c=true->sa f c=true)/\(∀ G,G<k->0<ua U G t->∀ c,c<m->may G c->sa f c=true)/\Cl n m may U L (s1.set t true) f
       have Z:∀ f,(∀ c,sa (s1.set t true) c=true->sa f c=true)->sa f t=true:=λf h=>h t (by rw [khX (by omega)]; simp);have P:∀ f,(∀ c,sa (s1.set t true) c=true->sa f c=true)->∀ c,sa s c=true->sa f c=true:=λf h c o=>h c (by rw [khX (by omega)]; split; rfl; exact H c o);obtain ⟨z,hz,hR⟩:=iter_inv (F:=kcX (kcE g) (i:Int) ((t:Int),B,U,L,s1))
        (λx=>∃ k f,k<=n/\x=((k:Int),B,U,L,f)/\Q2 k f) (λx=>n-x.1.toNat)
        (λz=>(∃ U' L' s',z = .inl (true,s',B,U',L')/\Post n m cap may i 1 U L s 1 U' L' s')\/∃ f,z = .inr (B,U,L,f)/\Q2 n f)
        (λx hx=>by
         obtain ⟨k,f,hk,rfl,p1,p2,p3,p4⟩:=hx;have hlU:lenI U=(n:Int):=by rw [kac,sh.u]
         by_cases y:k<n
         ·have Y:w64 ((k:Int)+1)=((k+1:Nat):Int):=kah (by omega);have R:decide ((k:Int)<lenI U)=true:=by rw [hlU]; simp; omega
          have f1:=sh.gu y;have f2:=sh.guj y p;by_cases E:0<ua U k t
          ·obtain ⟨b,U',L',s',O,hp⟩:=ih k U L f y sh p1 v (by
            have:=kjX (s:=s1.set t true) (s':=f) (by rw [p1,ac]) p2;omega)
           cases b with
           | true=>
            simp only [if_true] at hp;have F1:=hp.sh.gu y;have F2:=hp.sh.guj y p;have aa:=hp.sh.upd y p (x:=ua U' k t-1);have F3:=aa.gu hi;have F4:=aa.guj hi p;have B1:=hp.v.le y p;have B2:=hp.v.le hi p;have E1:w64 (ua U' k t-1)=ua U' k t-1:=kaz (by omega) (by omega);have hb:-10000<=ua (upd U' k t (ua U' k t-1)) i t/\ua (upd U' k t (ua U' k t-1)) i t<=10000:=by
             rw [hp.sh.ua_upd y p]; split <;> omega
            have E2:w64 (ua (upd U' k t (ua U' k t-1)) i t+1)=ua (upd U' k t (ua U' k t-1)) i t+1:=kaz (by omega) (by omega);refine .inl ⟨.inl (true,s',B,upd (upd U' k t (ua U' k t-1)) i t (ua (upd U' k t (ua U' k t-1)) i t+1),L'),?_,.inl ⟨_,_,_,rfl,ksX hp hi y p ai (Z f p2) (P f p2) I (by omega) (by omega) (jcu _)⟩⟩;unfold kcX;simp only [R,if_true,f1,f2,jaa,decide_eq_true E,O,F1,F2,E1,kvz,F3,F4,E2]
           | false=>
            simp only [jaf,if_false] at hp;obtain ⟨z1,z2,z3,z4⟩:=hp.z rfl;subst z1 z2;refine .inr ⟨((k+1:Nat),B,U',L',s'),?_,⟨k+1,s',by omega,rfl,hp.sl,λc h=>hp.mono c (p2 c h),λG af aj c o A=>?_,p4.trans z4 hp.mono⟩,by simp only [jal]; omega⟩
            ·unfold kcX;simp only [R,if_true,f1,f2,jaa,decide_eq_true E,O,jaf,if_false,Y]
            ·by_cases e:G=k
             ·subst e; exact z3 c o A
             ·exact hp.mono c (p3 G (by omega) aj c o A)
          ·refine .inr ⟨((k+1:Nat),B,U,L,f),?_,⟨k+1,f,by omega,rfl,p1,p2,λG af hp=>?_,p4⟩,by simp only [jal]; omega⟩
           ·unfold kcX;simp only [R,if_true,f1,f2,jaa,decide_eq_false E,jaf,if_false,Y]
           ·by_cases e:G=k
            ·subst e; exact absurd hp E
            ·exact p3 G (by omega) hp
         ·have ae:¬ decide ((k:Int)<lenI U)=true:=by rw [hlU]; simp; omega
          have:k=n:=by omega
          subst this;refine .inl ⟨.inr (B,U,L,f),?_,.inr ⟨f,rfl,p1,p2,p3,p4⟩⟩;unfold kcX;simp only [ae,if_false];rfl)
        (0,B,U,L,s1.set t true) ⟨0,s1.set t true,by omega,rfl,ac,λ_ h=>h,λG h=>by omega,λc _ h1 h2=>by rw [h1] at h2; cases h2⟩ (by simp only; omega)
       have ad:decide (0<la L t)=false:=decide_eq_false hd;have K:lset s1 (t:Int) true=s1.set t true:=rfl;rcases hR with ⟨U',L',s',rfl,hp⟩ | ⟨f,rfl,p1,p2,p3,p4⟩
       ·refine .inl ⟨.inl (true,s',B,U',L'),?_,.inl ⟨_,_,_,rfl,hp⟩⟩;unfold kbK;simp only [D,if_true,gB,g1,g2,g3,jaa,C,w,jbt,jaf,if_false,ad,K,hz]
       ·have ab:∀ c,sa s1 c=true->sa f c=true:=λc h=>p2 c (by rw [khX (by omega)]; split; rfl; exact h);refine .inr ⟨((t+1:Nat),B,U,L,f),?_,⟨t+1,f,by omega,rfl,p1,P f p2,λc o A=>?_,λc o h1 h2=>?_⟩,by simp only [jal]; omega⟩
        ·unfold kbK;simp only [D,if_true,gB,g1,g2,g3,jaa,C,w,jbt,jaf,if_false,ad,K,hz,Y]
        ·by_cases e:c=t
         ·subst e; exact Z f p2
         ·exact ab c (X c (by omega) A)
        ·cases e:sa s1 c with
         | true=>exact W.mono ab c o e h2
         | false=>
          by_cases e2:c=t
          ·subst e2;exact ⟨ah,λk hk hp=>p3 k hk hp⟩
          ·exact p4 c o h1 (by rw [khX (by omega),if_neg e2]; exact e)
    ·have:t=m:=by omega
     subst this;refine .inl ⟨.inr (s1,L,B,U),?_,.inr ⟨s1,rfl,J,H,X,W⟩⟩;unfold kbK;have:¬ decide ((t:Int)<lenI L)=true:=by rw [hlL]; simp
     rw [if_neg this])
   (0,B,U,L,s) ⟨0,s,by omega,rfl,hs,λ_ h=>h,λc h=>by omega,λc _ h1 h2=>by rw [h1] at h2; cases h2⟩ (by simp only; omega)
  obtain ⟨z,hz,hR⟩:=key;rw [hz];rcases hR with ⟨U',L',s',rfl,hp⟩ | ⟨s1,rfl,J,H,X,W⟩
  ·exact ⟨true,U',L',s',rfl,by rw [if_pos rfl]; exact hp⟩
  ·refine ⟨false,U,L,s1,rfl,?_⟩;rw [if_neg (by simp)];exact ⟨sh,J,H,v,λ_ _ _=>⟨rfl,λ_ _=>rfl⟩,by omega,by omega,by omega,λ_ _ _=>rfl,λ_=>⟨rfl,rfl,λj p I=>X j p I,W⟩⟩
variable {n m:Nat} {cap:Nat->Int} {may:Nat->Nat->Prop}
structure Gave (n m:Nat) (cap:Nat->Int) (may:Nat->Nat->Prop) (i:Nat) (most:Int) (U:List (List Int)) (g:Int) (U':List (List Int)) (L':List Int):Prop where
 sh:Shp n m U' L'
 v:Val n m cap may (ua U') (la L')
 g0:0<=g
 g1:g<=most
 ri:row m (ua U') i=row m (ua U) i+g
 ro:∀ k,k<n->k≠i->row m (ua U') k=row m (ua U) k
 st:g<most->∃ S,S i=true/\Sat n m may (ua U') (la L') S
theorem kvu {i:Nat} {most:Int} {U U':Ya (Ya Int)} {L L':Ya Int} {s':Ya Bool} (hi:i<n) (h:Post n m cap may i most U L (List.replicate m false) 0 U' L' s'):∃ S,S i=true/\Sat n m may (ua U') (la L') S:=by
 classical
 obtain ⟨o,t,p,h2⟩:=h.z rfl;subst o t;have f:∀ j,sa (List.replicate m false) j=false:=λj=>by
  unfold sa;rw [jaq,jcd];split <;> rfl
 obtain ⟨S,hS⟩:∃ S:Nat->Bool,∀ k,S k=true↔∀ j,j<m->may k j->sa s' j=true:=⟨λk=>decide (∀ j,j<m->may k j->sa s' j=true),λk=>by simp⟩;exact ⟨S,(hS i).2 p,λk _ c j a b=>(h2 j a ((hS k).1 c j a b) (f j)).1,λk _ c j a b g e hp=>(hS g).2 ((h2 j a ((hS k).1 c j a b) (f j)).2 g e hp)⟩
theorem kAd {U:Ya (Ya Int)} {L:Ya Int} (v:Val n m cap may (ua U) (la L)) {k:Nat} (a:k<n):0<=row m (ua U) k:=kdj λj b=>v.nn k a j b
theorem kmy {M:Ya (Ya Int)} {N:Ya (Int×Int×Int)} (hM:MayL n m may M) (hn:n<=1000) (P:m<=1000) (J:∀ j,j<m->cap j<=1000) {i:Nat} {most:Int} {U:Ya (Ya Int)} {L:Ya Int} (hi:i<n) (E:0<=most) (O:most<=1000) (sh:Shp n m U L) (v:Val n m cap may (ua U) (la L)) :
  ∃ g U' L',kcS (i:Int) most N M U L=some (g,N,M,U',L')/\Gave n m cap may i most U g U' L':=by
 unfold kcS;obtain ⟨z,hz,g,U',L',rfl,H⟩:=iter_inv (F:=kcO (i:Int) most)
  (λx=>∃ g U' L' s,x=(g,N,M,U',L',s)/\0<=g/\g<=most/\Shp n m U' L'/\Val n m cap may (ua U') (la L')/\row m (ua U') i=row m (ua U) i+g/\∀ k,k<n->k≠i->row m (ua U') k=row m (ua U) k) (λx=>(most-x.1).toNat)
  (λz=>∃ g U' L',z=(g,N,M,U',L')/\Gave n m cap may i most U g U' L')
  (λx I=>by
   obtain ⟨g,U',L',s,rfl,g0,g1,e,C,ri,ro⟩:=I;by_cases c:g<most
   ·have o:gmk (lenI L') false=some (List.replicate m false):=by
     unfold gmk;rw [kac,e.l,if_pos (by omega),jal]
    have D:w64 (most-g)=most-g:=kaz (by omega) (by omega);obtain ⟨r,y,w,s2,hr,hp⟩:=kzG (N:=N) hM hn J 1000000 i (most-g) U' L' (List.replicate m false) hi (by omega) e (by simp) C (by
     have:uns (List.replicate m false)<=m:=by
      unfold uns;have:=List.countP_le_length (p:=λb=>!b) (l:=List.replicate m false);simpa using this
     omega)
    have f:kgw (i:Int) (most-g) N M U' L' (List.replicate m false)=some (r,N,M,y,w,s2):=hr;by_cases hz:r=0
    ·subst hz;refine .inl ⟨(g,N,M,y,w),?_,g,y,w,rfl,hp.sh,hp.v,g0,g1,by rw [hp.ri,ri]; omega,λk t a=>by rw [hp.ro k t a,ro k t a],λ_=>kvu hi hp⟩;unfold kcO;simp only [decide_eq_true c,if_true,o,D,f,jaa];rfl
    ·have Q:=hp.r0;have K:=hp.r1;have A:w64 (g+r)=g+r:=kaz (by omega) (by omega);refine .inr ⟨(g+r,N,M,y,w,s2),?_,⟨g+r,y,w,s2,rfl,by omega,by omega,hp.sh,hp.v,by rw [hp.ri,ri]; omega,λk t a=>by rw [hp.ro k t a,ro k t a]⟩,by simp only; omega⟩;unfold kcO;have G:(r==0)=false:=by simp [hz]
     simp only [decide_eq_true c,if_true,o,D,f,jaa,G,jaf,if_false,A]
   ·refine .inl ⟨(g,N,M,U',L'),?_,g,U',L',rfl,e,C,g0,g1,ri,ro,λh=>absurd h c⟩;unfold kcO;simp only [decide_eq_false c,jaf,if_false])
  (0,N,M,U,L,[]) ⟨0,U,L,[],rfl,by omega,E,sh,v,by omega,λ_ _ _=>rfl⟩ (by simp only; omega)
 exact ⟨g,U',L',by rw [hz]; rfl,H⟩
theorem kAQ {B:Ya (Ya Bool)} (hB:MayB n m may B) (hn:n<=1000) (H:m<=1000) (J:∀ j,j<m->cap j<=1000) {i:Nat} {most:Int} {U:Ya (Ya Int)} {L:Ya Int} (hi:i<n) (E:0<=most) (K:most<=1000) (sh:Shp n m U L) (v:Val n m cap may (ua U) (la L)) :
  ∃ g U' L',kjo (i:Int) most B U L=some (g,B,U',L')/\Gave n m cap may i most U g U' L':=by
 unfold kjo;obtain ⟨z,hz,g,U',L',rfl,G⟩:=iter_inv (F:=keS (i:Int) most)
  (λx=>∃ g U' L',x=(g,B,U',L')/\0<=g/\g<=most/\Shp n m U' L'/\Val n m cap may (ua U') (la L')/\row m (ua U') i=row m (ua U) i+g/\∀ k,k<n->k≠i->row m (ua U') k=row m (ua U) k) (λx=>(most-x.1).toNat)
  (λz=>∃ g U' L',z=(g,U',B,L')/\Gave n m cap may i most U g U' L')
  (λx I=>by
   obtain ⟨g,U',L',rfl,g0,g1,e,C,ri,ro⟩:=I;by_cases c:g<most
   ·have o:gmk (lenI L') false=some (List.replicate m false):=by
     unfold gmk;rw [kac,e.l,if_pos (by omega),jal]
    obtain ⟨b,y,w,s2,hr,hp⟩:=kAx hB hn H J 1000000 i U' L' (List.replicate m false) hi e (by simp) C (by
     have:uns (List.replicate m false)<=m:=by
      unfold uns;have:=List.countP_le_length (p:=λb=>!b) (l:=List.replicate m false);simpa using this
     omega)
    have f:kkI (i:Int) B U' L' (List.replicate m false)=some (b,s2,B,y,w):=hr;cases b with
    | false=>
     simp only [jaf,if_false] at hp;have D:=hp;refine .inl ⟨(g,y,B,w),?_,g,y,w,rfl,hp.sh,hp.v,g0,g1,by rw [hp.ri,ri]; omega,λk t a=>by rw [hp.ro k t a,ro k t a],λ_=>kvu hi hp⟩;unfold keS;simp only [decide_eq_true c,if_true,o,f,jaa,jaf,if_false]
    | true=>
     simp only [if_true] at hp;have A:w64 (g+1)=g+1:=kaz (by omega) (by omega);refine .inr ⟨(g+1,B,y,w),?_,⟨g+1,y,w,rfl,by omega,by omega,hp.sh,hp.v,by rw [hp.ri,ri]; omega,λk t a=>by rw [hp.ro k t a,ro k t a]⟩,by simp only; omega⟩;unfold keS;simp only [decide_eq_true c,if_true,o,f,jaa,A]
   ·refine .inl ⟨(g,U',B,L'),?_,g,U',L',rfl,e,C,g0,g1,ri,ro,λh=>absurd h c⟩;unfold keS;simp only [decide_eq_false c,jaf,if_false])
  (0,B,U,L) ⟨0,U,L,rfl,by omega,E,sh,v,by omega,λ_ _ _=>rfl⟩ (by simp only; omega)
 exact ⟨g,U',L',by rw [hz]; rfl,G⟩
def Canon (n m:Nat) (cap:Nat->Int) (may:Nat->Nat->Prop) (N:Nat->Int) (i:Nat) (r:Nat->Int):Prop:=
 ∀ k,k<i->(∃ u l,Val n m cap may u l/\(∀ a,a<=k->row m u a=r a)/\(∀ a,k<a->a<n->row m u a=0)/\r k<=N k)/\
  ∀ u l,Val n m cap may u l->(∀ a,a<k->row m u a=r a)->(∀ a,k<a->a<n->row m u a=0)->row m u k<=N k->row m u k<=r k
theorem Canon.uniq {N:Nat->Int} {i:Nat} {r r':Nat->Int} (h:Canon n m cap may N i r) (h':Canon n m cap may N i r'):∀ k,k<i->r k=r' k:=by
 intro k;induction k using Nat.strongRecOn with
 | _ k g=>
  intro o;obtain ⟨⟨u,l,v,a,b,c⟩,d⟩:=h k o;obtain ⟨⟨u',l',t,a',b',c'⟩,p⟩:=h' k o;have w:=p u l v (λf e=>by rw [a f (by omega),g f e (by omega)]) b (by rw [a k (jah _)]; exact c);have y:=d u' l' t (λf e=>by rw [a' f (by omega),g f e (by omega)]) b' (by rw [a' k (jah _)]; exact c');rw [a k (jah _)] at w;rw [a' k (jah _)] at y;omega
structure At (n m:Nat) (cap:Nat->Int) (may:Nat->Nat->Prop) (N:Nat->Int) (i:Nat) (U:List (List Int)) (L:List Int) (K:List Bool) (t:Int):Prop where
 sh:Shp n m U L
 v:Val n m cap may (ua U) (la L)
 z:∀ k,i<=k->k<n->row m (ua U) k=0
 c:Canon n m cap may N i (row m (ua U))
 le:∀ k,k<i->row m (ua U) k<=N k
 st:∀ k,k<i->row m (ua U) k<N k->∃ S,S k=true/\Sat n m may (ua U) (la L) S
 kl:K.length=n
 k1:∀ k,k<i->sa K k=decide (row m (ua U) k<N k)
 k0:∀ k,i<=k->sa K k=false
 t:t=sumN (row m (ua U)) i
theorem At.step {N:Nat->Int} {i:Nat} {U U':Ya (Ya Int)} {L L':Ya Int} {K:Ya Bool} {t g:Int} (h:At n m cap may N i U L K t) (hi:i<n) (p:Gave n m cap may i (N i) U g U' L') :
  At n m cap may N (i+1) U' L' (K.set i (decide (g<N i))) (t+g):=by
 have r0:row m (ua U) i=0:=h.z i (jah _) hi;have ri:row m (ua U') i=g:=by rw [p.ri,r0]; omega
 have mono:∀ k,k<n->row m (ua U) k<=row m (ua U') k:=λk A=>by
  by_cases e:k=i
  ·subst e; have:=p.g0; omega
  ·rw [p.ro k A e]; omega
 refine ⟨p.sh,p.v,λk A C=>by rw [p.ro k C (by omega)]; exact h.z k (by omega) C,λk A=>?_,λk A=>?_,λk A y=>?_,by simp [h.kl],λk A=>?_,λk A=>?_,?_⟩
 ·by_cases e:k=i
  ·subst e;refine ⟨⟨_,_,p.v,λ_ _=>rfl,λo E h2=>by rw [p.ro o h2 (by omega)]; exact h.z o (by omega) h2,by rw [ri]; exact p.g1⟩,λu l v a b c=>?_⟩;by_cases hl:g<N k
   ·obtain ⟨S,s1,s2⟩:=p.st hl;exact ktA p.v v s2 hi s1 λo w D=>by
     by_cases y:o<k
     ·rw [a o y]; omega
     ·rw [b o (by omega) w,p.ro o w D,h.z o (by omega) w]; omega
   ·have:=p.g1; omega
  ·have w:k<i:=by omega
   have same:∀ o,o<=k->row m (ua U') o=row m (ua U) o:=λo h'=>p.ro o (by omega) (by omega);obtain ⟨⟨u,l,v,a,b,c⟩,d⟩:=h.c k w;refine ⟨⟨u,l,v,λo h'=>by rw [same o h']; exact a o h',b,by rw [same k (jah _)]; exact c⟩,λu l v a b c=>?_⟩;rw [same k (jah _)];exact d u l v (λo h'=>by rw [a o h',same o (by omega)]) b c
 ·by_cases e:k=i
  ·subst e; rw [ri]; exact p.g1
  ·rw [p.ro k (by omega) e]; exact h.le k (by omega)
 ·by_cases e:k=i
  ·subst e; rw [ri] at y; exact p.st y
  ·rw [p.ro k (by omega) e] at y;obtain ⟨S,s1,s2⟩:=h.st k (by omega) y;exact ⟨S,s1,(kru h.v p.v s2 λo w _=>mono o w).1⟩
 ·rw [show sa (K.set i (decide (g<N i))) k=if k=i then decide (g<N i) else sa K k from getD_set (by rw [h.kl]; exact hi)];by_cases e:k=i
  ·subst e; rw [if_pos rfl,ri]
  ·rw [if_neg e,p.ro k (by omega) e]; exact h.k1 k (by omega)
 ·rw [show sa (K.set i (decide (g<N i))) k=if k=i then decide (g<N i) else sa K k from getD_set (by rw [h.kl]; exact hi),if_neg (by omega)];exact h.k0 k (by omega)
 ·simp only [sumN];rw [ri,h.t,kak (f:=row m (ua U')) (g:=row m (ua U)) λk A=>p.ro k (by omega) (by omega)]
variable {n m:Nat} {cap:Nat->Int} {may:Nat->Nat->Prop}
abbrev It3:=Int×Int×Int
def needN (N:Ya It3) (k:Nat):Int:=((N[k]?).getD (0,0,0)).2.2
theorem kjO {N:Ya It3} {k:Nat} (h:k<N.length):needN N k=N[k].2.2:=by unfold needN; rw [jae h]; rfl
theorem At.zero {U:Ya (Ya Int)} {L:Ya Int} {K:Ya Bool} (sh:Shp n m U L) (c:∀ k,k<n->∀ j,j<m->ua U k j=0) (hl:∀ j,j<m->la L j=cap j) (e:∀ j,j<m->0<=cap j) (N:Nat->Int) (hK:K=List.replicate n false):At n m cap may N 0 U L K 0:=by
 have hz:∀ k,k<n->row m (ua U) k=0:=λk a=>by
  unfold row;rw [kak (g:=λ_=>0) λj b=>c k a j b,kdA]
 refine ⟨sh,⟨λk a j b=>by rw [c k a j b]; exact jcu _,λk a j b h=>by rw [c k a j b] at h; omega,λj b=>by rw [hl j b]; exact e j b,λj b=>?_⟩,λk _ a=>hz k a,λk a=>by omega,λk a=>by omega,λk a=>by omega,by simp [hK],λk a=>by omega,λk _=>?_,rfl⟩
 ·rw [hl j b,kak (g:=λ_=>0) λk a=>c k a j b,kdA]; omega
 ·subst hK;unfold sa;rw [jaq,jcd];split <;> rfl
theorem kCI {U:Ya (Ya Int)} {L:Ya Int} {K:Ya Bool} {N:Nat->Int} {i:Nat} {t:Int} (h:At n m cap may N i U L K t) (hi:i<=n) (hN:∀ k,k<n->N k<=1000):0<=t/\t<=1000*i:=by
 rw [h.t];have e:∀ k,k<i->0<=row m (ua U) k/\row m (ua U) k<=1000:=λk f=>⟨kAd h.v (by omega),Int.le_trans (h.le k f) (hN k (by omega))⟩;generalize row m (ua U)=r at e;clear h;induction i with
 | zero=>simp [sumN]
 | succ i g=>
  obtain ⟨a,b⟩:=g (by omega) λk f=>e k (by omega);obtain ⟨c,d⟩:=e i (by omega);simp only [sumN]
  push_cast
  omega
theorem kCP {M:Ya (Ya Int)} {N:Ya It3} {X:Ya It3} (hM:MayL n m may M) (hX:X.length=n) (hn:n<=1000) (C:m<=1000) (E:∀ j,j<m->cap j<=1000) (hN:∀ k,k<n->0<=needN X k/\needN X k<=1000) {U:Ya (Ya Int)} {L:Ya Int} {K:Ya Bool} (h:At n m cap may (needN X) 0 U L K 0) :
  ∃ t U' L' c,iter (khP X) (0,0,N,M,U,L,K)=some (t,N,M,U',L',c)/\At n m cap may (needN X) n U' L' c t:=by
 obtain ⟨z,hz,t,U',L',c,rfl,hA⟩:=iter_inv (F:=khP X)
  (λx=>∃ (i:Nat) (t:Int) (U:Ya (Ya Int)) (L:Ya Int) (K:Ya Bool),i<=n/\x=((i:Int),t,N,M,U,L,K)/\At n m cap may (needN X) i U L K t) (λx=>n-x.1.toNat)
  (λz=>∃ t U L K,z=(t,N,M,U,L,K)/\At n m cap may (needN X) n U L K t)
  (λx D=>by
   obtain ⟨i,t,U,L,K,hi,rfl,hA⟩:=D;by_cases a:i<n
   ·obtain ⟨g,U',L',o,hG⟩:=kmy (N:=N) hM hn C E a (hN i a).1 (hN i a).2 hA.sh hA.v;have g1:gi X (i:Int)=some X[i]:=kan (by omega);have f:=kjO (N:=X) (k:=i) (by omega);have w:gi K (i:Int)=some (sa K i):=gs hA.kl a;have I:=kCI hA (by omega) λk G=>(hN k G).2;have p:=hG.g0;have y:=hG.g1;have A:=(hN i a).2;have H:w64 ((i:Int)+1)=((i+1:Nat):Int):=kah (by omega);have e:w64 (t+g)=t+g:=kaz (by omega) (by omega);have b:decide ((i:Int)<lenI X)=true:=lenI_lt.2 (by omega);refine .inr ⟨((i+1:Nat),t+g,N,M,U',L',K.set i (decide (g<needN X i))),?_,⟨i+1,t+g,U',L',_,by omega,rfl,hA.step a hG⟩,by simp only [jal]; omega⟩;unfold khP;rw [f] at o;simp only [b,if_true,g1,o,w,jaa,H,e,f];rfl
   ·have:i=n:=by omega
    subst this;refine .inl ⟨(t,N,M,U,L,K),?_,t,U,L,K,rfl,hA⟩;unfold khP;rw [if_neg (by rw [<-hX]; exact kbk)])
  (0,0,N,M,U,L,K) ⟨0,0,U,L,K,by omega,rfl,h⟩ (by simp only; omega)
 exact ⟨t,U',L',c,hz,hA⟩
variable {n m:Nat} {cap:Nat->Int} {may:Nat->Nat->Prop}
def Edg (m:Nat) (may:Nat->Nat->Prop) (U:Ya (Ya Int)) (i k:Nat):Prop:=∃ j,j<m/\may i j/\0<ua U k j
structure Vis (n m:Nat) (may:Nat->Nat->Prop) (U:List (List Int)) (i:Nat) (s s':List Bool):Prop where
 l:s'.length=n
 mono:∀ k,sa s k=true->sa s' k=true
 at0:sa s' i=true
 r:∀ P:Nat->Prop,(∀ a b,b<n->P a->Edg m may U a b->P b)->P i->∀ k,sa s' k=true->sa s k=false->P k
 c:∀ k,sa s' k=true->sa s k=false->∀ k',k'<n->Edg m may U k k'->sa s' k'=true
theorem kyX {M:Ya (Ya Int)} {N:Ya It3} {U:Ya (Ya Int)} {L:Ya Int} (hM:MayL n m may M) (hn:n<=1000) (sh:Shp n m U L):∀ (g i:Nat) (s:Ya Bool),i<n->s.length=n->uns s<g->
  ∃ s',kbe g (i:Int) s (some (N,M,U,L))=some (s',some (N,M,U,L))/\Vis n m may U i s s':=by
 intro g;induction g with
 | zero=>intro i s _ _ h; omega
 | succ g ih=>
  intro i s hi hs hf;unfold kbe khD;have g0:gi s (i:Int)=some (sa s i):=gs hs hi;cases D:sa s i with
  | true=>
   refine ⟨s,by simp only [g0,D,jaa,if_true],hs,λ_ h=>h,D,λP _ _ k w h2=>?_,λk w h2=>?_⟩
   ·rw [w] at h2; cases h2
   ·rw [w] at h2; cases h2
  | false=>
  have gM:gi M (i:Int)=some (M.getD i []):=gi_D [] (by rw [hM.l]; exact hi);generalize hJ:M.getD i []=J at gM;have hJ1:∀ x∈J,∃ j,j<m/\x=(j:Int)/\may i j:=by rw [<-hJ]; exact hM.a i hi
  have hJ2:∀ j,j<m->may i j->(j:Int)∈J:=by rw [<-hJ]; exact hM.b i hi
  have hJl:J.length<=1000:=by rw [<-hJ]; exact hM.s i hi
  have K:lset s (i:Int) true=s.set i true:=rfl;have W:(s.set i true).length=n:=by simp [hs]
  have ac:uns (s.set i true)<g:=by have:=kqe (s:=s) (j:=i) (by omega) D; omega
  have G:∀ k,sa (s.set i true) k=if k=i then true else sa s k:=khX (by omega);let Q:Ya Bool->Prop:=λs1=>s1.length=n/\(∀ k,sa (s.set i true) k=true->sa s1 k=true)/\
   (∀ P:Nat->Prop,(∀ a b,b<n->P a->Edg m may U a b->P b)->P i->∀ k,sa s1 k=true->sa s k=false->P k)/\
   (∀ k,sa s1 k=true->sa (s.set i true) k=false->∀ f,f<n->Edg m may U k f->sa s1 f=true)
  have hQu:∀ s1,Q s1->uns s1<g:=λs1 q=>by
   have:=kjX (s:=s.set i true) (s':=s1) (by rw [q.1,W]) q.2.1;omega
  have hlU:lenI U=(n:Int):=by rw [kac,sh.u]
  obtain ⟨z,hz,s',rfl,Z,q2⟩:=iter_inv (F:=kcJ (kbe g) J)
   (λx=>∃ t s1,t<=J.length/\x=((t:Int),some (N,M,U,L),s1)/\Q s1/\∀ (t':Nat) (j:Nat),t'<t->J[t']?=some (j:Int)->∀ f,f<n->0<ua U f j->sa s1 f=true) (λx=>J.length-x.1.toNat)
   (λz=>∃ s1,z=(some (N,M,U,L),s1)/\Q s1/\∀ (t':Nat) (j:Nat),t'<J.length->J[t']?=some (j:Int)->∀ f,f<n->0<ua U f j->sa s1 f=true)
   (λx hx=>by
    obtain ⟨t,s1,ht,rfl,q,qt⟩:=hx;by_cases E:t<J.length
    ·obtain ⟨j,hj,O,ab⟩:=hJ1 J[t] (jdk E);have g1:gi J (t:Int)=some (j:Int):=by rw [kan E,O]
     have hw:w64 ((t:Int)+1)=((t+1:Nat):Int):=kah (by omega);have aa:decide ((t:Int)<lenI J)=true:=lenI_lt.2 E;obtain ⟨z,hz,o,rfl,p1,p2,p3⟩:=iter_inv (F:=kbT (kbe g) (j:Int) (N,M,U,L))
      (λx=>∃ k o,k<=n/\x=((k:Int),some (N,M,U,L),o)/\Q o/\(∀ f,sa s1 f=true->sa o f=true)/\∀ f,f<k->0<ua U f j->sa o f=true) (λx=>n-x.1.toNat)
      (λz=>∃ o,z=(some (N,M,U,L),o)/\Q o/\(∀ f,sa s1 f=true->sa o f=true)/\∀ f,f<n->0<ua U f j->sa o f=true)
      (λx hx=>by
       obtain ⟨k,o,hk,rfl,p1,p2,p3⟩:=hx;by_cases C:k<n
       ·have hw:w64 ((k:Int)+1)=((k+1:Nat):Int):=kah (by omega);have R:decide ((k:Int)<lenI U)=true:=by rw [hlU]; simp; omega
        have f1:=sh.gu C;have f2:=sh.guj C hj;by_cases hp:0<ua U k j
        ·obtain ⟨s4,hr,v⟩:=ih k o C p1.1 (hQu o p1);refine .inr ⟨((k+1:Nat),some (N,M,U,L),s4),?_,⟨k+1,s4,by omega,rfl,⟨v.l,λf h=>v.mono f (p1.2.1 f h),λP hP hPi f w h2=>?_,λf w h2 k2 A Y=>?_⟩,λf h=>v.mono f (p2 f h),λf p y=>?_⟩,by simp only [jal]; omega⟩
         ·unfold kbT;simp only [R,if_true,f1,f2,jaa,decide_eq_true hp,hr,hw]
         ·cases X:sa o f with
          | true=>exact p1.2.2.1 P hP hPi f X h2
          | false=>exact v.r P hP (hP i k C hPi ⟨j,hj,ab,hp⟩) f w X
         ·cases X:sa o f with
          | true=>exact v.mono _ (p1.2.2.2 f X h2 k2 A Y)
          | false=>exact v.c f w X k2 A Y
         ·by_cases e:f=k
          ·subst e; exact v.at0
          ·exact v.mono _ (p3 f (by omega) y)
        ·refine .inr ⟨((k+1:Nat),some (N,M,U,L),o),?_,⟨k+1,o,by omega,rfl,p1,p2,λf p y=>?_⟩,by simp only [jal]; omega⟩
         ·unfold kbT;simp only [R,if_true,f1,f2,jaa,decide_eq_false hp,jaf,if_false,hw]
         ·by_cases e:f=k
          ·subst e; exact absurd y hp
          ·exact p3 f (by omega) y
       ·have A:¬ decide ((k:Int)<lenI U)=true:=by rw [hlU]; simp; omega
        have:k=n:=by omega
        subst this;refine .inl ⟨(some (N,M,U,L),o),?_,o,rfl,p1,p2,p3⟩;unfold kbT;simp only [A,if_false];rfl)
      (0,some (N,M,U,L),s1) ⟨0,s1,by omega,rfl,q,λ_ h=>h,λf h=>by omega⟩ (by simp only; omega)
     refine .inr ⟨((t+1:Nat),some (N,M,U,L),o),?_,⟨t+1,o,by omega,rfl,p1,λt' j' H I f p y=>?_⟩,by simp only [jal]; omega⟩
     ·unfold kcJ;simp only [aa,if_true,g1,jaa,hz,hw]
     ·by_cases e:t'=t
      ·subst e;rw [jae E,O] at I;have:j=j':=by injection I with h; omega
       subst this; exact p3 f p y
      ·exact p2 _ (qt t' j' (by omega) I f p y)
    ·have:t=J.length:=by omega
     subst this;refine .inl ⟨(some (N,M,U,L),s1),?_,s1,rfl,q,qt⟩;unfold kcJ;rw [if_neg kbk])
   (0,some (N,M,U,L),s.set i true) ⟨0,s.set i true,by omega,rfl,⟨W,λ_ h=>h,λP hP hPi k w h2=>(by
    rw [G] at w;by_cases e:k=i
    ·rw [e]; exact hPi
    ·rw [if_neg e,h2] at w; cases w),λk w h2=>(by rw [w] at h2; cases h2)⟩,λt' j h=>by omega⟩ (by simp only; omega)
  refine ⟨s',by simp only [g0,D,jaa,jaf,if_false,gM,K,hz],Z.1,λk h=>Z.2.1 k (by rw [G]; split; rfl; exact h),Z.2.1 i (by rw [G,if_pos rfl]),Z.2.2.1,λk w h2 f p Y=>?_⟩;by_cases e:k=i
  ·subst e;obtain ⟨j,hj,hm,hp⟩:=Y;obtain ⟨t',H,e⟩:=jdc.1 (hJ2 j hj hm);exact q2 t' j H (by rw [jae H,e]) f p hp
  ·exact Z.2.2.2 k w (by rw [G,if_neg e]; exact h2) f p Y
def idx (s:Ya Bool) (n:Nat):Ya Int:=((List.range n).filter λk=>sa s k).map λ(k:Nat)=>(k:Int)
theorem kAR (s:Ya Bool) (n:Nat):idx s (n+1)=if sa s n=true then idx s n++[(n:Int)] else idx s n:=by
 unfold idx;rw [List.range_succ,List.filter_append,jcj];cases h:sa s n <;> simp [h]
theorem kyj (s:Ya Bool) (n:Nat):(idx s n).length<=n:=by
 unfold idx;rw [jar];exact jdg (List.length_filter_le _ _) (by simp)
theorem collect {F:Int×Ya Int->Yb ((Int×Ya Int)⊕Ya Int)} {s:Ya Bool} (e:s.length<=1000)
  (b:∀ (i:Nat) (l:Ya Int),i<s.length->l.length<=1000->F ((i:Int),l)=some (.inl (((i+1:Nat):Int),if sa s i=true then l++[(i:Int)] else l))) (h2:∀ l,F ((s.length:Int),l)=some (.inr l)):iter F (0,[])=some (idx s s.length):=by
 obtain ⟨z,hz,rfl⟩:=iter_inv (F:=F) (λx=>∃ i:Nat,i<=s.length/\x=((i:Int),idx s i)) (λx=>s.length-x.1.toNat) (λz=>z=idx s s.length)
  (λx c=>by
   obtain ⟨i,hi,rfl⟩:=c;by_cases a:i<s.length
   ·exact .inr ⟨_,b i _ a (by have:=kyj s i; omega),⟨i+1,by omega,by rw [kAR]⟩,by simp only [jal]; omega⟩
   ·have:i=s.length:=by omega
    subst this;exact .inl ⟨_,h2 _,rfl⟩)
  (0,[]) ⟨0,by omega,rfl⟩ (by simp only; omega)
 exact hz
theorem kBC {M:Ya (Ya Int)} {N:Ya It3} {U:Ya (Ya Int)} {L:Ya Int} {K:Ya Bool} (hM:MayL n m may M) (hn:n<=1000) (W:m<=1000) (sh:Shp n m U L) (hK:K.length=n) :
  ∃ s,s.length=n/\kdy (some (N,M,U,L)) K=some (idx s n)/\∀ k,k<n->(sa s k=true↔Rch n m may (ua U) (λk=>sa K k=true) k):=by
 unfold kdy;have R:gmk (lenI K) false=some (List.replicate n false):=by
  unfold gmk;rw [kac,hK,if_pos (by omega),jal]
 have O:∀ j,sa (List.replicate n false) j=false:=λj=>by
  unfold sa;rw [jaq,jcd];split <;> rfl
 obtain ⟨z,hz,y,A,C,D⟩:=iter_inv (F:=kcD K)
  (λx=>∃ (i:Nat) (s:Ya Bool),i<=n/\x=((i:Int),s,some (N,M,U,L))/\s.length=n/\(∀ k,k<i->sa K k=true->sa s k=true)/\(∀ k,sa s k=true->Rch n m may (ua U) (λk=>sa K k=true) k)/\(∀ k,sa s k=true->∀ f,f<n->Edg m may U k f->sa s f=true)) (λx=>n-x.1.toNat)
  (λs=>s.length=n/\(∀ k,k<n->sa K k=true->sa s k=true)/\(∀ k,sa s k=true->Rch n m may (ua U) (λk=>sa K k=true) k)/\(∀ k,sa s k=true->∀ f,f<n->Edg m may U k f->sa s f=true))
  (λx hx=>by
   obtain ⟨i,s,hi,rfl,y,A,C,D⟩:=hx;by_cases w:i<n
   ·have g1:gi K (i:Int)=some (sa K i):=gs hK w;have I:w64 ((i:Int)+1)=((i+1:Nat):Int):=kah (by omega);have t:decide ((i:Int)<lenI K)=true:=lenI_lt.2 (by omega);cases G:sa K i with
    | true=>
     obtain ⟨s',X,v⟩:=kyX (N:=N) hM hn sh 1000000 i s w y (by
      have:uns s<=n:=by
       unfold uns;have:=List.countP_le_length (p:=λb=>!b) (l:=s);omega
      omega)
     have J:kfO (i:Int) s (some (N,M,U,L))=some (s',some (N,M,U,L)):=X;refine .inr ⟨((i+1:Nat),s',some (N,M,U,L)),?_,⟨i+1,s',by omega,rfl,v.l,λk o hK'=>?_,λk h=>?_,λk h f o H=>?_⟩,by simp only [jal]; omega⟩
     ·unfold kcD;simp only [t,if_true,g1,G,J,jaa,I]
     ·by_cases e:k=i
      ·subst e; exact v.at0
      ·exact v.mono _ (A k (by omega) hK')
     ·cases E:sa s k with
      | true=>exact C k E
      | false=>exact v.r (λk=>Rch n m may (ua U) (λk=>sa K k=true) k) (λa b Q hP H=>by
        obtain ⟨j,P,Y,hp⟩:=H;exact .step hP P Y Q hp) (.base w G) k h E
     ·cases E:sa s k with
      | true=>exact v.mono _ (D k E f o H)
      | false=>exact v.c k h E f o H
    | false=>
     refine .inr ⟨((i+1:Nat),s,some (N,M,U,L)),?_,⟨i+1,s,by omega,rfl,y,λk o hK'=>?_,C,D⟩,by simp only [jal]; omega⟩
     ·unfold kcD;simp only [t,if_true,g1,G,jaa,jaf,if_false,I]
     ·by_cases e:k=i
      ·subst e; rw [G] at hK'; cases hK'
      ·exact A k (by omega) hK'
   ·have:i=n:=by omega
    subst this;refine .inl ⟨s,?_,y,A,C,D⟩;unfold kcD;rw [if_neg (by rw [<-hK]; exact kbk)])
  (0,List.replicate n false,some (N,M,U,L)) ⟨0,_,by omega,rfl,by simp,λk h=>by omega,λk h=>(by rw [O] at h; cases h),λk h=>(by rw [O] at h; cases h)⟩ (by simp only; omega)
 refine ⟨z,y,?_,λk G=>⟨C k,λh=>?_⟩⟩
 ·rw [R];simp only [jaa,hz];rw [collect (s:=z) (F:=kdU z) (by omega) (λi l hi hl=>by
   have g:gi z (i:Int)=some (sa z i):=gs rfl hi;have I:w64 ((i:Int)+1)=((i+1:Nat):Int):=kah (by omega);unfold kdU;simp only [lenI_lt.2 hi,if_true,g,jaa,I];cases sa z i with
   | true=>simp only [if_true]; rw [kdg (by simp; omega)]; rfl
   | false=>rfl) (λl=>by unfold kdU; rw [if_neg kbk])]
  rw [y]; rfl
 ·induction h with
  | base a b=>exact A _ a b
  | step a b c d e Z=>exact D _ (Z a.lt) _ d ⟨_,b,c,e⟩
end Go.Abs.Fl
namespace Go.Abs
open Go Go.Abs.Fl
theorem kte {a b:Ya It} (f:a.length<=1000) (g:b.length<=1000):kda [a,b]=some (if stk a=true/\stk b=true then 0 else 8):=by
 unfold kda;rw [kcB (F:=khk [a,b]) [a,b] (by simp) (λi x=>if stk x then none else some 8) (λi hi=>by
  have h2:i<2:=by simpa using hi
  unfold khk;rw [if_pos (by rw [kac]; simp; omega),kan hi,kah (by omega)];have hl:[a,b][i].length<=1000:=by
   have:[a,b][i]∈[a,b]:=jdk _;simp only [jbu,List.not_mem_nil,or_false] at this;rcases this with e | e <;> rw [e] <;> assumption
  simp only [jaa,kvQ _ hl];by_cases h:stk [a,b][i]=true <;> simp [h,nextL]) (by unfold khk; rw [if_neg (by simp [kac])])]
 simp only [jbj,List.zipIdx_nil,jcv,List.findSome?_nil];by_cases c:stk a=true <;> by_cases h2:stk b=true <;> simp [c,h2,endL]
theorem lots1 (l:Ya It):∃ b,kjs l=some b/\(b=false->l.length<=40):=by
 unfold kjs;rw [kac];by_cases hl:(40:Int)<l.length
 ·exact ⟨true,by rw [if_pos (by simpa using hl)],λh=>by cases h⟩
 ·rw [if_neg (by simpa using hl)];have:∀ (k i:Nat) (v:Int),i+k=l.length->∃ r,itN (kfY l) (k+1) ((i:Int),v)=some r:=by
   intro k;induction k with
   | zero=>
    intro i v h;refine ⟨v,kck ?_⟩;unfold kfY;rw [if_neg (by rw [kac]; simp; omega)]
   | succ k a=>
    intro i v h;have hi:i<l.length:=by omega
    by_cases c:(decide (0<=l[i].2.2)&&decide (l[i].2.2<=1000))=true
    ·obtain ⟨r,hr⟩:=a (i+1) (w64 (v+l[i].2.2)) (by omega);refine ⟨r,?_⟩;rw [<-hr];refine kid ?_;unfold kfY;rw [if_pos (by rw [kac]; simpa using hi),kan hi,kah (by omega)];simp only [jaa,kgA,c,if_true]
    ·obtain ⟨r,hr⟩:=a (i+1) v (by omega);refine ⟨r,?_⟩;rw [<-hr];refine kid ?_;unfold kfY;rw [if_pos (by rw [kac]; simpa using hi),kan hi,kah (by omega)];simp only [jaa,kgA,c,if_false];rw [if_neg (by simp)]
  obtain ⟨r,hr⟩:=this l.length 0 0 (by omega);refine ⟨decide (8000<r),?_,λ_=>by omega⟩;rw [show ((0:Int),(0:Int))=(((0:Nat):Int),0) from rfl,kfy hr (by omega)]; rfl
theorem kCt (a b:Ya It):∃ c,klb [a,b]=some c/\(c=false->a.length<=40/\b.length<=40):=by
 obtain ⟨u,o,f⟩:=lots1 a;obtain ⟨v,t,g⟩:=lots1 b;refine ⟨u||v,?_,λh=>?_⟩
 ·unfold klb;rw [kcB (F:=kii [a,b]) [a,b] (by simp) (λi x=>if kjs x=some true then some true else none) (λi hi=>by
   have h2:i<2:=by simpa using hi
   unfold kii;rw [if_pos (by rw [kac]; simp; omega),kan hi,kah (by omega)];have p:[a,b][i]∈[a,b]:=jdk _;simp only [jbu,List.not_mem_nil,or_false] at p;simp only [jaa];rcases p with e | e
   ·rw [e,o]; cases u <;> simp [nextL]
   ·rw [e,t]; cases v <;> simp [nextL]) (by unfold kii; rw [if_neg (by simp [kac])])]
  simp only [jbj,List.zipIdx_nil,jcv,List.findSome?_nil,o,t];cases u <;> cases v <;> simp [endL]
 ·rw [jdo] at h;exact ⟨f h.1,g h.2⟩
def pOk (k c:Int):Bool:=decide (0<=k)&&decide (k<=15)&&decide (c<=15)
theorem kCp (x:Int×Int):kcs x=some (pOk x.1 x.2):=khz (x.1,x.2,0)
theorem kAp (k c:Int):kem k c=some (pOk k c):=kmo (k,c,0)
def swBad (x:Swap):Bool:=!pOk x.1 x.2.1||!pOk x.2.2.1 x.2.2.2||(x.1==x.2.2.1&&x.2.1==x.2.2.2)
def swE (l:Ya Swap):Int:=if l.length<=30/\l.any swBad=false then 0 else 2
theorem kpj {α:Type} {f:α->α->Bool} (h:∀ x,f x x=true):∀ l:Ya α,lbeq f l l=true
 | []=>rfl
 | x::l=>by simp [lbeq,h x,kpj h l]
theorem kfJ {t:Ty} {x:t.den} (h:teq t x x=true):bthO t (some x) (some x)=some x:=by
 unfold bthO;simp only [h,if_true]
theorem kAh (x:Swap):bthO tSwap (some x) (some x)=some x:=kfJ (by simp [teq])
theorem c1_eq (x:Swap):kdB x=some (swBad x):=by
 unfold kdB swBad;rw [kAh];simp only [jaa,kCp];cases pOk x.1 x.2.1 <;> cases pOk x.2.2.1 x.2.2.2 <;> simp
theorem kqx (l:Ya Swap) (hl:l.length<=1000):kef l=some (swE l):=by
 unfold kef swE;rw [kac];by_cases b:(30:Int)<l.length
 ·rw [if_pos (by simpa using b),if_neg (by omega)]
 ·rw [if_neg (by simpa using b)];unfold kbt kbI;have e:(λf:Swap=>(kdB f).bind λg=>some g)=λu=>some (swBad u):=by funext u; rw [c1_eq]; rfl
  rw [e,kcB (F:=kaO l _) l (by omega) (λi x=>if swBad x then some (i:Int) else none) (λi hi=>by
   unfold kaO;rw [if_pos (by rw [kac]; simpa using hi),kan hi,kah (by omega)];simp only [jaa];by_cases h:swBad l[i]=true <;> simp [h,nextL]) (by unfold kaO; rw [if_neg (by simp [kac])])]
  have:∀ (l:Ya Swap) (k:Nat),(endL ((l.zipIdx k).findSome? λx=>if swBad x.1 then some (x.2:Int) else none) = .inr ()/\l.any swBad=false)\/∃ p:Int,0<=p/\endL ((l.zipIdx k).findSome? λx=>if swBad x.1 then some (x.2:Int) else none) = .inl p/\l.any swBad=true:=by
   intro l;induction l with
   | nil=>intro k; exact .inl ⟨rfl,rfl⟩
   | cons x l o=>
    intro k;rw [jbj,jcv,jdr];cases hp:swBad x with
    | true=>exact .inr ⟨k,by omega,by simp [endL],by simp⟩
    | false=>
     simp only [jaf,if_false,jcn];exact o (k+1)
  rcases this l 0 with ⟨c,h2⟩ | ⟨p,hp,c,h2⟩
  ·rw [c,h2];have a:l.length<=30:=by omega
   simp [a]
  ·rw [c,h2];simp only [jaa,decide_eq_true hp,if_true];rw [if_neg (by simp)]
theorem kjG (l:Ya Swap):keo l=some (swE l):=by
 unfold keo kgl swE;rw [kac];by_cases a:(30:Int)<l.length
 ·rw [if_pos (by simpa using a),if_neg (by omega)]; rfl
 ·rw [if_neg (by simpa using a),kiG (F:=khh l) false l (by omega) (λ_ x=>swBad x) (λi hi=>by
   unfold khh;rw [if_pos (by rw [kac]; simpa using hi),kan hi,kah (by omega)];simp only [jaa,kAp];unfold swBad;cases pOk l[i].1 l[i].2.1 <;> cases pOk l[i].2.2.1 l[i].2.2.2 <;> cases (l[i].1==l[i].2.2.1) <;> cases (l[i].2.1==l[i].2.2.2) <;> simp) (by unfold khh; rw [if_neg (by simp [kac])])]
  rw [ktn swBad l 0];cases h:l.any swBad with
  | true=>simp
  | false=>simp; omega
def mayB (sw:Ya Swap) (a b:Int×Int):Bool:=(a.1==b.1&&a.2==b.2)||sw.any λv=>a.1==v.1&&(a.2==v.2.1&&(b.1==v.2.2.1&&b.2==v.2.2.2))
theorem kzu (sw:Ya Swap) (hl:sw.length<=1000) (a b:Int×Int):klt sw a b=some (mayB sw a b):=by
 unfold klt mayB;cases f:(a.1==b.1&&a.2==b.2) with
 | true=>simp
 | false=>
  simp only [jaf,if_false,jcn];unfold kbO kcl;let q:Swap->Bool:=λv=>a.1==v.1&&(a.2==v.2.1&&(b.1==v.2.2.1&&b.2==v.2.2.2))
  rw [kcB (F:=kbj sw _) sw (by omega) (λi x=>if q x then some (i:Int) else none) (λi hi=>by
   unfold kbj;rw [if_pos (by rw [kac]; simpa using hi),kan hi,kah (by omega)];simp only [jaa];by_cases h:q sw[i]=true
   ·have h':=h;simp only [q] at h';rw [if_pos h',if_pos h]; rfl
   ·have h':=h;simp only [q] at h';rw [if_neg h',if_neg h]; rfl) (by unfold kbj; rw [if_neg (by simp [kac])])]
  have:∀ (l:Ya Swap) (k:Nat),(endL ((l.zipIdx k).findSome? λx=>if q x.1 then some (x.2:Int) else none) = .inr ()/\l.any q=false)\/∃ p:Int,0<=p/\endL ((l.zipIdx k).findSome? λx=>if q x.1 then some (x.2:Int) else none) = .inl p/\l.any q=true:=by
   intro l;induction l with
   | nil=>intro k; exact .inl ⟨rfl,rfl⟩
   | cons x l e=>
    intro k;rw [jbj,jcv,jdr];cases hp:q x with
    | true=>exact .inr ⟨k,by omega,by simp [endL],by simp⟩
    | false=>
     simp only [jaf,if_false,jcn];exact e (k+1)
  rcases this sw 0 with ⟨c,h2⟩ | ⟨p,hp,c,h2⟩
  ·rw [c,h2]; rfl
  ·rw [c,h2];simp only [jaa,decide_eq_true hp]
theorem klM (sw:Ya Swap) (hl:sw.length<=1000) (a b:Int×Int):kfa sw a.1 a.2 b.1 b.2=some (mayB sw a b):=by
 unfold kfa mayB;have c:(if (a.1==b.1)=true then some (a.2==b.2) else some false)=some (a.1==b.1&&a.2==b.2):=by cases (a.1==b.1) <;> simp
 rw [c];simp only [jaa];cases f:(a.1==b.1&&a.2==b.2) with
 | true=>simp
 | false=>
  simp only [jaf,if_false,jcn];rw [kiG (F:=kja sw a.1 a.2 b.1 b.2) true sw (by omega) (λ_ v=>a.1==v.1&&(a.2==v.2.1&&(b.1==v.2.2.1&&b.2==v.2.2.2))) (λi hi=>by
   unfold kja;rw [if_pos (by rw [kac]; simpa using hi),kan hi,kah (by omega)];have e:(sw[i].1==a.1&&(sw[i].2.1==a.2&&(sw[i].2.2.1==b.1&&sw[i].2.2.2==b.2)))=(a.1==sw[i].1&&(a.2==sw[i].2.1&&(b.1==sw[i].2.2.1&&b.2==sw[i].2.2.2))):=by
    rw [Bool.beq_comm (a:=sw[i].1),Bool.beq_comm (a:=sw[i].2.1),Bool.beq_comm (a:=sw[i].2.2.1),Bool.beq_comm (a:=sw[i].2.2.2)]
   simp only [jaa,e];split <;> rfl) (by unfold kja; rw [if_neg (by simp [kac])])]
  rw [ktn (λv:Swap=>a.1==v.1&&(a.2==v.2.1&&(b.1==v.2.2.1&&b.2==v.2.2.2))) sw 0];cases sw.any λv=>a.1==v.1&&(a.2==v.2.1&&(b.1==v.2.2.1&&b.2==v.2.2.2)) <;> rfl
end Go.Abs
