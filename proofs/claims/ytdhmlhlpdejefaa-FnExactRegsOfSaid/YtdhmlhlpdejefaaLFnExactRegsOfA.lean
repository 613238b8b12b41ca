/- What these functions give, and that the law FnExactRegsOf gives true. -/
import Derived.Test.YtdhmlhlpdejefaaCFnExactRegsOf
namespace Go.Proofs.Ytdhmlhlpdejefaa.AI
open Go.Proofs
set_option linter.all false
set_option maxRecDepth 100000
structure DNode where
  Kind : Int
  Num : Int
  Name : ByteArray
  More : ByteArray
  To : ByteArray
  Kids : List (Int)
abbrev cNode (x : DNode) : List AV := [.int .i64 x.Kind, .int .i64 x.Num, .str x.Name, .str x.More, .str x.To, .tree 1 (x.Kids.map cI)]
def wtNode (x : DNode) : Nat := x.Name.size + x.More.size + x.To.size + x.Kids.length
def gdNode (x : DNode) : Prop := i64 x.Kind ∧ i64 x.Num ∧ gdS x.Name ∧ gdS x.More ∧ gdS x.To ∧ (x.Kids.length ≤ 140737488351232 ∧ ∀ y ∈ x.Kids, i64 y)
def mkNode (x : DNode) (k : Int) : DNode := { Kind := k, Num := (k + 1), Name := (mT ((k + 1) + 1)), More := (mT (((k + 1) + 1) + 1)), To := (mT ((((k + 1) + 1) + 1) + 1)), Kids := mkL mkI ct1 x.Kids (((((k + 1) + 1) + 1) + 1) + 1) }
def ctNode (x : DNode) : Nat := 1 + 1 + 1 + 1 + 1 + tot ct1 x.Kids
theorem ctle_Node (x : DNode) : ctNode x ≤ 5 * (1 + wtNode x) := by
  have h0 := tot_ct1 x.Kids
  unfold ctNode
  simp only [wtNode] at *
  omega
theorem tctle_Node (xs : List DNode) : tot ctNode xs ≤ 5 * (xs.length + tot wtNode xs) := tot_ct_le ctle_Node xs
def mwNode (x : DNode) (k : Int) : DNode := { Kind := x.Kind, Num := x.Num, Name := x.Name, More := x.More, To := x.To, Kids := mkL mkI ct1 x.Kids k }
def cwNode (x : DNode) : Nat := tot ct1 x.Kids
theorem set_cNode {xs : List DNode} {n : Nat} {x : DNode} : (xs.map cNode).set n [.int .i64 x.Kind, .int .i64 x.Num, .str x.Name, .str x.More, .str x.To, .tree 1 (x.Kids.map cI)] = (xs.set n x).map cNode := by rw [List.map_set]
theorem snoc_cNode {xs : List DNode} {x : DNode} : xs.map cNode ++ [[.int .i64 x.Kind, .int .i64 x.Num, .str x.Name, .str x.More, .str x.To, .tree 1 (x.Kids.map cI)]] = (xs ++ [x]).map cNode := by simp
theorem solid_cNode {xs : List DNode} : solid (xs.map cNode) = true := solid_map fun _ => rfl
structure DEntry where
  Name : ByteArray
  Param : ByteArray
  Body : Int
abbrev cEntry (x : DEntry) : List AV := [.str x.Name, .str x.Param, .int .i64 x.Body]
def wtEntry (x : DEntry) : Nat := x.Name.size + x.Param.size
def gdEntry (x : DEntry) : Prop := gdS x.Name ∧ gdS x.Param ∧ i64 x.Body
def mkEntry (x : DEntry) (k : Int) : DEntry := { Name := (mT k), Param := (mT (k + 1)), Body := ((k + 1) + 1) }
def ctEntry (x : DEntry) : Nat := 1 + 1 + 1
theorem ctle_Entry (x : DEntry) : ctEntry x ≤ 3 * (1 + wtEntry x) := by
  unfold ctEntry
  simp only [wtEntry] at *
  omega
theorem tctle_Entry (xs : List DEntry) : tot ctEntry xs ≤ 3 * (xs.length + tot wtEntry xs) := tot_ct_le ctle_Entry xs
theorem flat_cEntry {xs : List DEntry} : flat (xs.map cEntry) = true := flat_map fun _ => rfl
theorem set_cEntry {xs : List DEntry} {n : Nat} {x : DEntry} : (xs.map cEntry).set n [.str x.Name, .str x.Param, .int .i64 x.Body] = (xs.set n x).map cEntry := by rw [List.map_set]
theorem snoc_cEntry {xs : List DEntry} {x : DEntry} : xs.map cEntry ++ [[.str x.Name, .str x.Param, .int .i64 x.Body]] = (xs ++ [x]).map cEntry := by simp
theorem solid_cEntry {xs : List DEntry} : solid (xs.map cEntry) = true := solid_map fun _ => rfl
structure DMonitor where
  Name : ByteArray
  Vars : List (ByteArray)
  Queues : List (ByteArray)
  Entries : List (DEntry)
abbrev cMonitor (x : DMonitor) : List AV := [.str x.Name, .tree 1 (x.Vars.map cS), .tree 1 (x.Queues.map cS), .tree 3 (x.Entries.map cEntry)]
def wtMonitor (x : DMonitor) : Nat := x.Name.size + (x.Vars.length + tot wtS x.Vars) + (x.Queues.length + tot wtS x.Queues) + (x.Entries.length + tot wtEntry x.Entries)
def gdMonitor (x : DMonitor) : Prop := gdS x.Name ∧ (x.Vars.length ≤ 140737488351232 ∧ ∀ y ∈ x.Vars, gdS y) ∧ (x.Queues.length ≤ 140737488351232 ∧ ∀ y ∈ x.Queues, gdS y) ∧ (x.Entries.length ≤ 140737488351232 ∧ ∀ y ∈ x.Entries, gdEntry y)
def mkMonitor (x : DMonitor) (k : Int) : DMonitor := { Name := (mT k), Vars := mkL mkS ct1 x.Vars (k + 1), Queues := mkL mkS ct1 x.Queues ((k + 1) + (tot ct1 x.Vars : Nat)), Entries := mkL mkEntry ctEntry x.Entries (((k + 1) + (tot ct1 x.Vars : Nat)) + (tot ct1 x.Queues : Nat)) }
def ctMonitor (x : DMonitor) : Nat := 1 + tot ct1 x.Vars + tot ct1 x.Queues + tot ctEntry x.Entries
theorem ctle_Monitor (x : DMonitor) : ctMonitor x ≤ 3 * (1 + wtMonitor x) := by
  have h0 := tot_ct1 x.Vars
  have h1 := tot_ct1 x.Queues
  have h2 := tctle_Entry x.Entries
  unfold ctMonitor
  simp only [wtMonitor] at *
  omega
theorem tctle_Monitor (xs : List DMonitor) : tot ctMonitor xs ≤ 3 * (xs.length + tot wtMonitor xs) := tot_ct_le ctle_Monitor xs
def mwMonitor (x : DMonitor) (k : Int) : DMonitor := { Name := x.Name, Vars := mkL mkS ct1 x.Vars k, Queues := mkL mkS ct1 x.Queues (k + (tot ct1 x.Vars : Nat)), Entries := mkL mkEntry ctEntry x.Entries ((k + (tot ct1 x.Vars : Nat)) + (tot ct1 x.Queues : Nat)) }
def cwMonitor (x : DMonitor) : Nat := tot ct1 x.Vars + tot ct1 x.Queues + tot ctEntry x.Entries
theorem set_cMonitor {xs : List DMonitor} {n : Nat} {x : DMonitor} : (xs.map cMonitor).set n [.str x.Name, .tree 1 (x.Vars.map cS), .tree 1 (x.Queues.map cS), .tree 3 (x.Entries.map cEntry)] = (xs.set n x).map cMonitor := by rw [List.map_set]
theorem snoc_cMonitor {xs : List DMonitor} {x : DMonitor} : xs.map cMonitor ++ [[.str x.Name, .tree 1 (x.Vars.map cS), .tree 1 (x.Queues.map cS), .tree 3 (x.Entries.map cEntry)]] = (xs ++ [x]).map cMonitor := by simp
theorem solid_cMonitor {xs : List DMonitor} : solid (xs.map cMonitor) = true := solid_map fun _ => rfl
structure DProcess where
  Name : ByteArray
  Uses : List (ByteArray)
  Vars : List (ByteArray)
  Body : Int
abbrev cProcess (x : DProcess) : List AV := [.str x.Name, .tree 1 (x.Uses.map cS), .tree 1 (x.Vars.map cS), .int .i64 x.Body]
def wtProcess (x : DProcess) : Nat := x.Name.size + (x.Uses.length + tot wtS x.Uses) + (x.Vars.length + tot wtS x.Vars)
def gdProcess (x : DProcess) : Prop := gdS x.Name ∧ (x.Uses.length ≤ 140737488351232 ∧ ∀ y ∈ x.Uses, gdS y) ∧ (x.Vars.length ≤ 140737488351232 ∧ ∀ y ∈ x.Vars, gdS y) ∧ i64 x.Body
def mkProcess (x : DProcess) (k : Int) : DProcess := { Name := (mT k), Uses := mkL mkS ct1 x.Uses (k + 1), Vars := mkL mkS ct1 x.Vars ((k + 1) + (tot ct1 x.Uses : Nat)), Body := (((k + 1) + (tot ct1 x.Uses : Nat)) + (tot ct1 x.Vars : Nat)) }
def ctProcess (x : DProcess) : Nat := 1 + tot ct1 x.Uses + tot ct1 x.Vars + 1
theorem ctle_Process (x : DProcess) : ctProcess x ≤ 2 * (1 + wtProcess x) := by
  have h0 := tot_ct1 x.Uses
  have h1 := tot_ct1 x.Vars
  unfold ctProcess
  simp only [wtProcess] at *
  omega
theorem tctle_Process (xs : List DProcess) : tot ctProcess xs ≤ 2 * (xs.length + tot wtProcess xs) := tot_ct_le ctle_Process xs
def mwProcess (x : DProcess) (k : Int) : DProcess := { Name := x.Name, Uses := mkL mkS ct1 x.Uses k, Vars := mkL mkS ct1 x.Vars (k + (tot ct1 x.Uses : Nat)), Body := x.Body }
def cwProcess (x : DProcess) : Nat := tot ct1 x.Uses + tot ct1 x.Vars
theorem set_cProcess {xs : List DProcess} {n : Nat} {x : DProcess} : (xs.map cProcess).set n [.str x.Name, .tree 1 (x.Uses.map cS), .tree 1 (x.Vars.map cS), .int .i64 x.Body] = (xs.set n x).map cProcess := by rw [List.map_set]
theorem snoc_cProcess {xs : List DProcess} {x : DProcess} : xs.map cProcess ++ [[.str x.Name, .tree 1 (x.Uses.map cS), .tree 1 (x.Vars.map cS), .int .i64 x.Body]] = (xs ++ [x]).map cProcess := by simp
theorem solid_cProcess {xs : List DProcess} : solid (xs.map cProcess) = true := solid_map fun _ => rfl
structure DProgram where
  Nodes : List (DNode)
  Monitors : List (DMonitor)
  Processes : List (DProcess)
abbrev cProgram (x : DProgram) : List AV := [.tree 6 (x.Nodes.map cNode), .tree 4 (x.Monitors.map cMonitor), .tree 4 (x.Processes.map cProcess)]
def wtProgram (x : DProgram) : Nat := (x.Nodes.length + tot wtNode x.Nodes) + (x.Monitors.length + tot wtMonitor x.Monitors) + (x.Processes.length + tot wtProcess x.Processes)
def gdProgram (x : DProgram) : Prop := (x.Nodes.length ≤ 140737488351232 ∧ ∀ y ∈ x.Nodes, gdNode y) ∧ (x.Monitors.length ≤ 140737488351232 ∧ ∀ y ∈ x.Monitors, gdMonitor y) ∧ (x.Processes.length ≤ 140737488351232 ∧ ∀ y ∈ x.Processes, gdProcess y)
def mkProgram (x : DProgram) (k : Int) : DProgram := { Nodes := mkL mkNode ctNode x.Nodes k, Monitors := mkL mkMonitor ctMonitor x.Monitors (k + (tot ctNode x.Nodes : Nat)), Processes := mkL mkProcess ctProcess x.Processes ((k + (tot ctNode x.Nodes : Nat)) + (tot ctMonitor x.Monitors : Nat)) }
def ctProgram (x : DProgram) : Nat := tot ctNode x.Nodes + tot ctMonitor x.Monitors + tot ctProcess x.Processes
theorem ctle_Program (x : DProgram) : ctProgram x ≤ 5 * (1 + wtProgram x) := by
  have h0 := tctle_Node x.Nodes
  have h1 := tctle_Monitor x.Monitors
  have h2 := tctle_Process x.Processes
  unfold ctProgram
  simp only [wtProgram] at *
  omega
theorem tctle_Program (xs : List DProgram) : tot ctProgram xs ≤ 5 * (xs.length + tot wtProgram xs) := tot_ct_le ctle_Program xs
def mwProgram (x : DProgram) (k : Int) : DProgram := { Nodes := mkL mkNode ctNode x.Nodes k, Monitors := mkL mkMonitor ctMonitor x.Monitors (k + (tot ctNode x.Nodes : Nat)), Processes := mkL mkProcess ctProcess x.Processes ((k + (tot ctNode x.Nodes : Nat)) + (tot ctMonitor x.Monitors : Nat)) }
def cwProgram (x : DProgram) : Nat := tot ctNode x.Nodes + tot ctMonitor x.Monitors + tot ctProcess x.Processes
theorem set_cProgram {xs : List DProgram} {n : Nat} {x : DProgram} : (xs.map cProgram).set n [.tree 6 (x.Nodes.map cNode), .tree 4 (x.Monitors.map cMonitor), .tree 4 (x.Processes.map cProcess)] = (xs.set n x).map cProgram := by rw [List.map_set]
theorem snoc_cProgram {xs : List DProgram} {x : DProgram} : xs.map cProgram ++ [[.tree 6 (x.Nodes.map cNode), .tree 4 (x.Monitors.map cMonitor), .tree 4 (x.Processes.map cProcess)]] = (xs ++ [x]).map cProgram := by simp
theorem solid_cProgram {xs : List DProgram} : solid (xs.map cProgram) = true := solid_map fun _ => rfl
structure DGate where
  Owner : Int
  Waits : List (Int)
  Queues : List (Int)
abbrev cGate (x : DGate) : List AV := [.int .i64 x.Owner, .tree 1 (x.Waits.map cI), .tree 1 (x.Queues.map cI)]
def wtGate (x : DGate) : Nat := x.Waits.length + x.Queues.length
def gdGate (x : DGate) : Prop := i64 x.Owner ∧ (x.Waits.length ≤ 140737488351232 ∧ ∀ y ∈ x.Waits, i64 y) ∧ (x.Queues.length ≤ 140737488351232 ∧ ∀ y ∈ x.Queues, i64 y)
def mkGate (x : DGate) (k : Int) : DGate := { Owner := k, Waits := mkL mkI ct1 x.Waits (k + 1), Queues := mkL mkI ct1 x.Queues ((k + 1) + (tot ct1 x.Waits : Nat)) }
def ctGate (x : DGate) : Nat := 1 + tot ct1 x.Waits + tot ct1 x.Queues
theorem ctle_Gate (x : DGate) : ctGate x ≤ 1 * (1 + wtGate x) := by
  have h0 := tot_ct1 x.Waits
  have h1 := tot_ct1 x.Queues
  unfold ctGate
  simp only [wtGate] at *
  omega
theorem tctle_Gate (xs : List DGate) : tot ctGate xs ≤ 1 * (xs.length + tot wtGate xs) := tot_ct_le ctle_Gate xs
def mwGate (x : DGate) (k : Int) : DGate := { Owner := x.Owner, Waits := mkL mkI ct1 x.Waits k, Queues := mkL mkI ct1 x.Queues (k + (tot ct1 x.Waits : Nat)) }
def cwGate (x : DGate) : Nat := tot ct1 x.Waits + tot ct1 x.Queues
theorem set_cGate {xs : List DGate} {n : Nat} {x : DGate} : (xs.map cGate).set n [.int .i64 x.Owner, .tree 1 (x.Waits.map cI), .tree 1 (x.Queues.map cI)] = (xs.set n x).map cGate := by rw [List.map_set]
theorem snoc_cGate {xs : List DGate} {x : DGate} : xs.map cGate ++ [[.int .i64 x.Owner, .tree 1 (x.Waits.map cI), .tree 1 (x.Queues.map cI)]] = (xs ++ [x]).map cGate := by simp
theorem solid_cGate {xs : List DGate} : solid (xs.map cGate) = true := solid_map fun _ => rfl
structure DIns where
  Op : Int
  A : Int
  B : Int
  C : Int
abbrev cIns (x : DIns) : List AV := [.int .i64 x.Op, .int .i64 x.A, .int .i64 x.B, .int .i64 x.C]
def gdIns (x : DIns) : Prop := i64 x.Op ∧ i64 x.A ∧ i64 x.B ∧ i64 x.C
def mkIns (x : DIns) (k : Int) : DIns := { Op := k, A := (k + 1), B := ((k + 1) + 1), C := (((k + 1) + 1) + 1) }
def ctIns (x : DIns) : Nat := 1 + 1 + 1 + 1
theorem ctle_Ins (x : DIns) : ctIns x ≤ 4 := by
  unfold ctIns
  omega
theorem tctle_Ins (xs : List DIns) : tot ctIns xs ≤ 4 * xs.length := tot_ct_le0 ctle_Ins xs
theorem flat_cIns {xs : List DIns} : flat (xs.map cIns) = true := flat_map fun _ => rfl
theorem set_cIns {xs : List DIns} {n : Nat} {x : DIns} : (xs.map cIns).set n [.int .i64 x.Op, .int .i64 x.A, .int .i64 x.B, .int .i64 x.C] = (xs.set n x).map cIns := by rw [List.map_set]
theorem snoc_cIns {xs : List DIns} {x : DIns} : xs.map cIns ++ [[.int .i64 x.Op, .int .i64 x.A, .int .i64 x.B, .int .i64 x.C]] = (xs ++ [x]).map cIns := by simp
theorem solid_cIns {xs : List DIns} : solid (xs.map cIns) = true := solid_map fun _ => rfl
structure DCore where
  Regs : List (Int)
  Pc : Int
  Process : Int
abbrev cCore (x : DCore) : List AV := [.tree 1 (x.Regs.map cI), .int .i64 x.Pc, .int .i64 x.Process]
def wtCore (x : DCore) : Nat := x.Regs.length
def gdCore (x : DCore) : Prop := (x.Regs.length ≤ 140737488351232 ∧ ∀ y ∈ x.Regs, i64 y) ∧ i64 x.Pc ∧ i64 x.Process
def mkCore (x : DCore) (k : Int) : DCore := { Regs := mkL mkI ct1 x.Regs k, Pc := (k + (tot ct1 x.Regs : Nat)), Process := ((k + (tot ct1 x.Regs : Nat)) + 1) }
def ctCore (x : DCore) : Nat := tot ct1 x.Regs + 1 + 1
theorem ctle_Core (x : DCore) : ctCore x ≤ 2 * (1 + wtCore x) := by
  have h0 := tot_ct1 x.Regs
  unfold ctCore
  simp only [wtCore] at *
  omega
theorem tctle_Core (xs : List DCore) : tot ctCore xs ≤ 2 * (xs.length + tot wtCore xs) := tot_ct_le ctle_Core xs
def mwCore (x : DCore) (k : Int) : DCore := { Regs := mkL mkI ct1 x.Regs k, Pc := x.Pc, Process := x.Process }
def cwCore (x : DCore) : Nat := tot ct1 x.Regs
theorem set_cCore {xs : List DCore} {n : Nat} {x : DCore} : (xs.map cCore).set n [.tree 1 (x.Regs.map cI), .int .i64 x.Pc, .int .i64 x.Process] = (xs.set n x).map cCore := by rw [List.map_set]
theorem snoc_cCore {xs : List DCore} {x : DCore} : xs.map cCore ++ [[.tree 1 (x.Regs.map cI), .int .i64 x.Pc, .int .i64 x.Process]] = (xs ++ [x]).map cCore := by simp
theorem solid_cCore {xs : List DCore} : solid (xs.map cCore) = true := solid_map fun _ => rfl
structure DPlaces where
  Names : List (ByteArray)
  Ats : List (Int)
abbrev cPlaces (x : DPlaces) : List AV := [.tree 1 (x.Names.map cS), .tree 1 (x.Ats.map cI)]
def wtPlaces (x : DPlaces) : Nat := (x.Names.length + tot wtS x.Names) + x.Ats.length
def gdPlaces (x : DPlaces) : Prop := (x.Names.length ≤ 140737488351232 ∧ ∀ y ∈ x.Names, gdS y) ∧ (x.Ats.length ≤ 140737488351232 ∧ ∀ y ∈ x.Ats, i64 y)
def mkPlaces (x : DPlaces) (k : Int) : DPlaces := { Names := mkL mkS ct1 x.Names k, Ats := mkL mkI ct1 x.Ats (k + (tot ct1 x.Names : Nat)) }
def ctPlaces (x : DPlaces) : Nat := tot ct1 x.Names + tot ct1 x.Ats
theorem ctle_Places (x : DPlaces) : ctPlaces x ≤ 1 * (1 + wtPlaces x) := by
  have h0 := tot_ct1 x.Names
  have h1 := tot_ct1 x.Ats
  unfold ctPlaces
  simp only [wtPlaces] at *
  omega
theorem tctle_Places (xs : List DPlaces) : tot ctPlaces xs ≤ 1 * (xs.length + tot wtPlaces xs) := tot_ct_le ctle_Places xs
def mwPlaces (x : DPlaces) (k : Int) : DPlaces := { Names := mkL mkS ct1 x.Names k, Ats := mkL mkI ct1 x.Ats (k + (tot ct1 x.Names : Nat)) }
def cwPlaces (x : DPlaces) : Nat := tot ct1 x.Names + tot ct1 x.Ats
theorem set_cPlaces {xs : List DPlaces} {n : Nat} {x : DPlaces} : (xs.map cPlaces).set n [.tree 1 (x.Names.map cS), .tree 1 (x.Ats.map cI)] = (xs.set n x).map cPlaces := by rw [List.map_set]
theorem snoc_cPlaces {xs : List DPlaces} {x : DPlaces} : xs.map cPlaces ++ [[.tree 1 (x.Names.map cS), .tree 1 (x.Ats.map cI)]] = (xs ++ [x]).map cPlaces := by simp
theorem solid_cPlaces {xs : List DPlaces} : solid (xs.map cPlaces) = true := solid_map fun _ => rfl
structure DImage where
  Text : List (Int)
  Starts : List (Int)
  Size : Int
abbrev cImage (x : DImage) : List AV := [.tree 1 (x.Text.map cI), .tree 1 (x.Starts.map cI), .int .i64 x.Size]
def wtImage (x : DImage) : Nat := x.Text.length + x.Starts.length
def gdImage (x : DImage) : Prop := (x.Text.length ≤ 140737488351232 ∧ ∀ y ∈ x.Text, i64 y) ∧ (x.Starts.length ≤ 140737488351232 ∧ ∀ y ∈ x.Starts, i64 y) ∧ i64 x.Size
def mkImage (x : DImage) (k : Int) : DImage := { Text := mkL mkI ct1 x.Text k, Starts := mkL mkI ct1 x.Starts (k + (tot ct1 x.Text : Nat)), Size := ((k + (tot ct1 x.Text : Nat)) + (tot ct1 x.Starts : Nat)) }
def ctImage (x : DImage) : Nat := tot ct1 x.Text + tot ct1 x.Starts + 1
theorem ctle_Image (x : DImage) : ctImage x ≤ 1 * (1 + wtImage x) := by
  have h0 := tot_ct1 x.Text
  have h1 := tot_ct1 x.Starts
  unfold ctImage
  simp only [wtImage] at *
  omega
theorem tctle_Image (xs : List DImage) : tot ctImage xs ≤ 1 * (xs.length + tot wtImage xs) := tot_ct_le ctle_Image xs
def mwImage (x : DImage) (k : Int) : DImage := { Text := mkL mkI ct1 x.Text k, Starts := mkL mkI ct1 x.Starts (k + (tot ct1 x.Text : Nat)), Size := x.Size }
def cwImage (x : DImage) : Nat := tot ct1 x.Text + tot ct1 x.Starts
theorem set_cImage {xs : List DImage} {n : Nat} {x : DImage} : (xs.map cImage).set n [.tree 1 (x.Text.map cI), .tree 1 (x.Starts.map cI), .int .i64 x.Size] = (xs.set n x).map cImage := by rw [List.map_set]
theorem snoc_cImage {xs : List DImage} {x : DImage} : xs.map cImage ++ [[.tree 1 (x.Text.map cI), .tree 1 (x.Starts.map cI), .int .i64 x.Size]] = (xs ++ [x]).map cImage := by simp
theorem solid_cImage {xs : List DImage} : solid (xs.map cImage) = true := solid_map fun _ => rfl
structure DKernel where
  Gates : List (DGate)
  Ready : List (Int)
  Saved : List (DCore)
  Over : List (Bool)
abbrev cKernel (x : DKernel) : List AV := [.tree 3 (x.Gates.map cGate), .tree 1 (x.Ready.map cI), .tree 3 (x.Saved.map cCore), .tree 1 (x.Over.map cB)]
def wtKernel (x : DKernel) : Nat := (x.Gates.length + tot wtGate x.Gates) + x.Ready.length + (x.Saved.length + tot wtCore x.Saved) + x.Over.length
def gdKernel (x : DKernel) : Prop := (x.Gates.length ≤ 140737488351232 ∧ ∀ y ∈ x.Gates, gdGate y) ∧ (x.Ready.length ≤ 140737488351232 ∧ ∀ y ∈ x.Ready, i64 y) ∧ (x.Saved.length ≤ 140737488351232 ∧ ∀ y ∈ x.Saved, gdCore y) ∧ (x.Over.length ≤ 140737488351232)
def mkKernel (x : DKernel) (k : Int) : DKernel := { Gates := mkL mkGate ctGate x.Gates k, Ready := mkL mkI ct1 x.Ready (k + (tot ctGate x.Gates : Nat)), Saved := mkL mkCore ctCore x.Saved ((k + (tot ctGate x.Gates : Nat)) + (tot ct1 x.Ready : Nat)), Over := mkL mkB ct1 x.Over (((k + (tot ctGate x.Gates : Nat)) + (tot ct1 x.Ready : Nat)) + (tot ctCore x.Saved : Nat)) }
def ctKernel (x : DKernel) : Nat := tot ctGate x.Gates + tot ct1 x.Ready + tot ctCore x.Saved + tot ct1 x.Over
theorem ctle_Kernel (x : DKernel) : ctKernel x ≤ 2 * (1 + wtKernel x) := by
  have h0 := tctle_Gate x.Gates
  have h1 := tot_ct1 x.Ready
  have h2 := tctle_Core x.Saved
  have h3 := tot_ct1 x.Over
  unfold ctKernel
  simp only [wtKernel] at *
  omega
theorem tctle_Kernel (xs : List DKernel) : tot ctKernel xs ≤ 2 * (xs.length + tot wtKernel xs) := tot_ct_le ctle_Kernel xs
def mwKernel (x : DKernel) (k : Int) : DKernel := { Gates := mkL mkGate ctGate x.Gates k, Ready := mkL mkI ct1 x.Ready (k + (tot ctGate x.Gates : Nat)), Saved := mkL mkCore ctCore x.Saved ((k + (tot ctGate x.Gates : Nat)) + (tot ct1 x.Ready : Nat)), Over := mkL mkB ct1 x.Over (((k + (tot ctGate x.Gates : Nat)) + (tot ct1 x.Ready : Nat)) + (tot ctCore x.Saved : Nat)) }
def cwKernel (x : DKernel) : Nat := tot ctGate x.Gates + tot ct1 x.Ready + tot ctCore x.Saved + tot ct1 x.Over
theorem set_cKernel {xs : List DKernel} {n : Nat} {x : DKernel} : (xs.map cKernel).set n [.tree 3 (x.Gates.map cGate), .tree 1 (x.Ready.map cI), .tree 3 (x.Saved.map cCore), .tree 1 (x.Over.map cB)] = (xs.set n x).map cKernel := by rw [List.map_set]
theorem snoc_cKernel {xs : List DKernel} {x : DKernel} : xs.map cKernel ++ [[.tree 3 (x.Gates.map cGate), .tree 1 (x.Ready.map cI), .tree 3 (x.Saved.map cCore), .tree 1 (x.Over.map cB)]] = (xs ++ [x]).map cKernel := by simp
theorem solid_cKernel {xs : List DKernel} : solid (xs.map cKernel) = true := solid_map fun _ => rfl
def FT := (And.intro (And.intro (And.intro (And.intro (And.intro @solid_cNode @solid_cEntry) (And.intro @solid_cMonitor @solid_cProcess)) (And.intro (And.intro @solid_cProgram @solid_cGate) (And.intro @solid_cIns @solid_cCore))) (And.intro (And.intro (And.intro @solid_cPlaces @solid_cImage) (And.intro @solid_cKernel @flat_cEntry)) (And.intro (And.intro @flat_cIns @snoc_cNode) (And.intro @snoc_cEntry (And.intro @snoc_cMonitor @snoc_cProcess))))) (And.intro (And.intro (And.intro (And.intro @snoc_cProgram @snoc_cGate) (And.intro @snoc_cIns @snoc_cCore)) (And.intro (And.intro @snoc_cPlaces @snoc_cImage) (And.intro @snoc_cKernel (And.intro @set_cNode @set_cEntry)))) (And.intro (And.intro (And.intro @set_cMonitor @set_cProcess) (And.intro @set_cProgram @set_cGate)) (And.intro (And.intro @set_cIns @set_cCore) (And.intro @set_cPlaces (And.intro @set_cImage @set_cKernel))))))
theorem sem_laws_szIntS (xs : List Int) (h : xs.length ≤ 140737488351232) (n : Int) (h1 : -1 ≤ n) (h2 : n ≤ 4611686018427387904) : S_laws_szIntS.sem [.tree 1 (xs.map cI), .int .i64 n] = some (.int .i64 (lft n xs.length), []) := by
  rw [sg_laws_szIntS, sem_go]
  simp +contextual (maxSteps := 10000000) (disch := omega) only [F_laws_szIntS, params, EG, EL, ↓reduceIte, Nat.reduceEqDiff, Nat.reduceAdd, Nat.reduceSub, Nat.reduceMul, Nat.reduceLeDiff, Nat.reduceLT, Int.reduceLT, Int.reduceLE, Int.reduceEq, Int.reduceToNat, reduceCtorEq, FB, FT, cx_laws_szIntS, wrapI]
  unfold lft
  split <;> rfl
theorem sem_laws_szNode (x : DNode) (g : gdNode x) (n : Int) (h1 : -1 ≤ n) (h2 : n ≤ 4611686018427387904) : S_laws_szNode.sem [.agg (cNode x), .int .i64 n] = some (.int .i64 (lft n (wtNode x)), []) := by
  obtain ⟨g0, g1, g2, g3, g4, ⟨g5, g5e⟩⟩ := (show i64 x.Kind ∧ i64 x.Num ∧ gdS x.Name ∧ gdS x.More ∧ gdS x.To ∧ (x.Kids.length ≤ 140737488351232 ∧ ∀ y ∈ x.Kids, i64 y) from g)
  simp only [gdS] at g2 g3 g4
  unfold wtNode
  have kW := lft_or n (x.Name.size + x.More.size + x.To.size + x.Kids.length)
  rw [sg_laws_szNode, sem_go]
  by_cases c0 : n - ((x.Name.size : Nat) : Int) < 0
  · simp (maxSteps := 10000000) (disch := first | assumption | omega) only [F_laws_szNode, params, EG, EL, ↓reduceIte, Nat.reduceEqDiff, Nat.reduceAdd, Nat.reduceSub, Nat.reduceMul, Nat.reduceLeDiff, Nat.reduceLT, Int.reduceLT, Int.reduceLE, Int.reduceEq, Int.reduceToNat, reduceCtorEq, FB, FT, cx_laws_szNode, cl_laws_szIntS, sem_laws_szIntS, wrapI, neg1_lt, c0]
    first | done | (simp only [Option.some.injEq, Prod.mk.injEq, AV.int.injEq, AV.bool.injEq, AV.str.injEq, true_and, and_true]; omega)
  · skip
    by_cases c1 : n - ((x.Name.size : Nat) : Int) - ((x.More.size : Nat) : Int) < 0
    · simp (maxSteps := 10000000) (disch := first | assumption | omega) only [F_laws_szNode, params, EG, EL, ↓reduceIte, Nat.reduceEqDiff, Nat.reduceAdd, Nat.reduceSub, Nat.reduceMul, Nat.reduceLeDiff, Nat.reduceLT, Int.reduceLT, Int.reduceLE, Int.reduceEq, Int.reduceToNat, reduceCtorEq, FB, FT, cx_laws_szNode, cl_laws_szIntS, sem_laws_szIntS, wrapI, neg1_lt, c0, c1]
      first | done | (simp only [Option.some.injEq, Prod.mk.injEq, AV.int.injEq, AV.bool.injEq, AV.str.injEq, true_and, and_true]; omega)
    · skip
      by_cases c2 : n - ((x.Name.size : Nat) : Int) - ((x.More.size : Nat) : Int) - ((x.To.size : Nat) : Int) < 0
      · simp (maxSteps := 10000000) (disch := first | assumption | omega) only [F_laws_szNode, params, EG, EL, ↓reduceIte, Nat.reduceEqDiff, Nat.reduceAdd, Nat.reduceSub, Nat.reduceMul, Nat.reduceLeDiff, Nat.reduceLT, Int.reduceLT, Int.reduceLE, Int.reduceEq, Int.reduceToNat, reduceCtorEq, FB, FT, cx_laws_szNode, cl_laws_szIntS, sem_laws_szIntS, wrapI, neg1_lt, c0, c1, c2]
        first | done | (simp only [Option.some.injEq, Prod.mk.injEq, AV.int.injEq, AV.bool.injEq, AV.str.injEq, true_and, and_true]; omega)
      · skip
        rcases lft_or (n - ((x.Name.size : Nat) : Int) - ((x.More.size : Nat) : Int) - ((x.To.size : Nat) : Int)) (x.Kids.length) with ⟨e3, f3⟩ | ⟨e3, f3⟩
        · simp (maxSteps := 10000000) (disch := first | assumption | omega) only [F_laws_szNode, params, EG, EL, ↓reduceIte, Nat.reduceEqDiff, Nat.reduceAdd, Nat.reduceSub, Nat.reduceMul, Nat.reduceLeDiff, Nat.reduceLT, Int.reduceLT, Int.reduceLE, Int.reduceEq, Int.reduceToNat, reduceCtorEq, FB, FT, cx_laws_szNode, cl_laws_szIntS, sem_laws_szIntS, wrapI, neg1_lt, c0, c1, c2, e3]
          first | done | (simp only [Option.some.injEq, Prod.mk.injEq, AV.int.injEq, AV.bool.injEq, AV.str.injEq, true_and, and_true]; omega)
        · have c3 : ¬ n - ((x.Name.size : Nat) : Int) - ((x.More.size : Nat) : Int) - ((x.To.size : Nat) : Int) - ((x.Kids.length : Nat) : Int) < 0 := by omega
          simp (maxSteps := 10000000) (disch := first | assumption | omega) only [F_laws_szNode, params, EG, EL, ↓reduceIte, Nat.reduceEqDiff, Nat.reduceAdd, Nat.reduceSub, Nat.reduceMul, Nat.reduceLeDiff, Nat.reduceLT, Int.reduceLT, Int.reduceLE, Int.reduceEq, Int.reduceToNat, reduceCtorEq, FB, FT, cx_laws_szNode, cl_laws_szIntS, sem_laws_szIntS, wrapI, neg1_lt, c0, c1, c2, e3, c3]
          first | done | rfl | (simp only [Option.some.injEq, Prod.mk.injEq, AV.int.injEq, AV.bool.injEq, AV.str.injEq, true_and, and_true]; omega)
theorem loop_laws_szNodeS (xs : List DNode) (g : ∀ y ∈ xs, gdNode y) (hl : xs.length ≤ 140737488351232) (n : Int) (h1 : 0 ≤ n) (h2 : n ≤ 4611686018427387904) :
    loopV X_laws_szNodeS 0 [0, 1, 5] [(1, [1]), (0, [4])] B0_laws_szNodeS ⟨[(0, .tree 6 (xs.map cNode)), (1, .int .i64 n), (5, .int .i64 0)], []⟩ = szR 4 n (tot wtNode xs) := by
  refine loop_list xs (fun _ m => 0 ≤ m ∧ m ≤ 4611686018427387904) (fun i (m : Int) => ⟨[(0, .tree 6 (xs.map cNode)), (1, .int .i64 m), (5, .int .i64 ((i : Nat) : Int))], []⟩) (fun rest m => szR 4 m (tot wtNode rest)) ?_ ?_ n ⟨h1, h2⟩
  · rintro m ⟨m1, m2⟩
    rw [loopV_by B0_laws_szNodeS.eq_1]
    simp only [EG, EL, ↓reduceIte, Nat.reduceEqDiff, Nat.reduceAdd, Nat.reduceSub, Nat.reduceMul, Nat.reduceLeDiff, Nat.reduceLT, Int.reduceLT, Int.reduceLE, Int.reduceEq, Int.reduceToNat, reduceCtorEq, int_lt_irrefl]
    exact szR_zero m1
  · rintro i h x rest m rfl rfl ⟨m1, m2⟩ ih
    have hi : (i : Int) < (xs.length : Int) := by omega
    have hx := g _ (List.getElem_mem h)
    skip
    rw [loopV_by B0_laws_szNodeS.eq_1]
    by_cases hc : m - ((wtNode xs[i] : Nat) : Int) < 0
    · have hq : lft m (wtNode xs[i]) = -1 := if_pos hc
      simp (maxSteps := 10000000) (disch := first | assumption | omega) only [EG, EL, ↓reduceIte, Nat.reduceEqDiff, Nat.reduceAdd, Nat.reduceSub, Nat.reduceMul, Nat.reduceLeDiff, Nat.reduceLT, Int.reduceLT, Int.reduceLE, Int.reduceEq, Int.reduceToNat, reduceCtorEq, FB, FT, hi, wrap_succ, getRow _ _ h, cx_laws_szNodeS, cl_laws_szNode, sem_laws_szNode, hc, hq, neg1_lt]
      exact szR_neg hc
    · have hq : lft m (wtNode xs[i]) = m - ((wtNode xs[i] : Nat) : Int) := if_neg hc
      simp (maxSteps := 10000000) (disch := first | assumption | omega) only [EG, EL, ↓reduceIte, Nat.reduceEqDiff, Nat.reduceAdd, Nat.reduceSub, Nat.reduceMul, Nat.reduceLeDiff, Nat.reduceLT, Int.reduceLT, Int.reduceLE, Int.reduceEq, Int.reduceToNat, reduceCtorEq, FB, FT, hi, wrap_succ, getRow _ _ h, cx_laws_szNodeS, cl_laws_szNode, sem_laws_szNode, hc, hq, neg1_lt]
      skip
      rw [ih _ ⟨by omega, by omega⟩]
      exact szR_pos
theorem sem_laws_szNodeS (xs : List DNode) (h : xs.length ≤ 140737488351232) (g : ∀ y ∈ xs, gdNode y) (n : Int) (h1 : -1 ≤ n) (h2 : n ≤ 4611686018427387904) : S_laws_szNodeS.sem [.tree 6 (xs.map cNode), .int .i64 n] = some (.int .i64 (lft n (xs.length + tot wtNode xs)), []) := by
  rw [sg_laws_szNodeS, sem_go]
  by_cases hc : n - (xs.length : Int) < 0
  · simp (maxSteps := 10000000) (disch := omega) only [F_laws_szNodeS, params, EG, EL, ↓reduceIte, Nat.reduceEqDiff, Nat.reduceAdd, Nat.reduceSub, Nat.reduceMul, Nat.reduceLeDiff, Nat.reduceLT, Int.reduceLT, Int.reduceLE, Int.reduceEq, Int.reduceToNat, reduceCtorEq, FB, FT, cx_laws_szNodeS, cl_laws_szNode, sem_laws_szNode, wrapI, hc, lft]
    rw [if_pos (by omega)]
  · simp (maxSteps := 10000000) (disch := first | assumption | omega) only [F_laws_szNodeS, params, EG, EL, ↓reduceIte, Nat.reduceEqDiff, Nat.reduceAdd, Nat.reduceSub, Nat.reduceMul, Nat.reduceLeDiff, Nat.reduceLT, Int.reduceLT, Int.reduceLE, Int.reduceEq, Int.reduceToNat, reduceCtorEq, FB, FT, cx_laws_szNodeS, cl_laws_szNode, sem_laws_szNode, wrapI, hc, loop_laws_szNodeS, goE_szR]
    unfold lft
    (repeat' split) <;> first | rfl | omega | (simp only [Option.some.injEq, Prod.mk.injEq, AV.int.injEq, AV.bool.injEq, AV.str.injEq, true_and, and_true]; omega)
theorem loop_laws_szStringS (xs : List ByteArray) (g : ∀ y ∈ xs, gdS y) (hl : xs.length ≤ 140737488351232) (n : Int) (h1 : 0 ≤ n) (h2 : n ≤ 4611686018427387904) :
    loopV X_laws_szStringS 0 [0, 1, 5] [(1, [1]), (0, [4])] B0_laws_szStringS ⟨[(0, .tree 1 (xs.map cS)), (1, .int .i64 n), (5, .int .i64 0)], []⟩ = szR 4 n (tot wtS xs) := by
  refine loop_list xs (fun _ m => 0 ≤ m ∧ m ≤ 4611686018427387904) (fun i (m : Int) => ⟨[(0, .tree 1 (xs.map cS)), (1, .int .i64 m), (5, .int .i64 ((i : Nat) : Int))], []⟩) (fun rest m => szR 4 m (tot wtS rest)) ?_ ?_ n ⟨h1, h2⟩
  · rintro m ⟨m1, m2⟩
    rw [loopV_by B0_laws_szStringS.eq_1]
    simp only [EG, EL, ↓reduceIte, Nat.reduceEqDiff, Nat.reduceAdd, Nat.reduceSub, Nat.reduceMul, Nat.reduceLeDiff, Nat.reduceLT, Int.reduceLT, Int.reduceLE, Int.reduceEq, Int.reduceToNat, reduceCtorEq, int_lt_irrefl]
    exact szR_zero m1
  · rintro i h x rest m rfl rfl ⟨m1, m2⟩ ih
    have hi : (i : Int) < (xs.length : Int) := by omega
    have hx := g _ (List.getElem_mem h)
    simp only [gdS] at hx
    rw [loopV_by B0_laws_szStringS.eq_1]
    by_cases hc : m - ((xs[i].size : Nat) : Int) < 0
    · skip
      simp (maxSteps := 10000000) (disch := first | assumption | omega) only [EG, EL, ↓reduceIte, Nat.reduceEqDiff, Nat.reduceAdd, Nat.reduceSub, Nat.reduceMul, Nat.reduceLeDiff, Nat.reduceLT, Int.reduceLT, Int.reduceLE, Int.reduceEq, Int.reduceToNat, reduceCtorEq, FB, FT, hi, wrap_succ, getRow _ _ h, cx_laws_szStringS, hc, wrapI]
      exact szR_neg hc
    · skip
      simp (maxSteps := 10000000) (disch := first | assumption | omega) only [EG, EL, ↓reduceIte, Nat.reduceEqDiff, Nat.reduceAdd, Nat.reduceSub, Nat.reduceMul, Nat.reduceLeDiff, Nat.reduceLT, Int.reduceLT, Int.reduceLE, Int.reduceEq, Int.reduceToNat, reduceCtorEq, FB, FT, hi, getRow _ _ h, cx_laws_szStringS, hc, wrapI]
      rw [show ((i : Nat) : Int) + 1 = ((i + 1 : Nat) : Int) by omega]
      rw [ih _ ⟨by omega, by omega⟩]
      exact szR_pos
theorem sem_laws_szStringS (xs : List ByteArray) (h : xs.length ≤ 140737488351232) (g : ∀ y ∈ xs, gdS y) (n : Int) (h1 : -1 ≤ n) (h2 : n ≤ 4611686018427387904) : S_laws_szStringS.sem [.tree 1 (xs.map cS), .int .i64 n] = some (.int .i64 (lft n (xs.length + tot wtS xs)), []) := by
  rw [sg_laws_szStringS, sem_go]
  by_cases hc : n - (xs.length : Int) < 0
  · simp (maxSteps := 10000000) (disch := omega) only [F_laws_szStringS, params, EG, EL, ↓reduceIte, Nat.reduceEqDiff, Nat.reduceAdd, Nat.reduceSub, Nat.reduceMul, Nat.reduceLeDiff, Nat.reduceLT, Int.reduceLT, Int.reduceLE, Int.reduceEq, Int.reduceToNat, reduceCtorEq, FB, FT, cx_laws_szStringS, wrapI, hc, lft]
    rw [if_pos (by omega)]
  · simp (maxSteps := 10000000) (disch := first | assumption | omega) only [F_laws_szStringS, params, EG, EL, ↓reduceIte, Nat.reduceEqDiff, Nat.reduceAdd, Nat.reduceSub, Nat.reduceMul, Nat.reduceLeDiff, Nat.reduceLT, Int.reduceLT, Int.reduceLE, Int.reduceEq, Int.reduceToNat, reduceCtorEq, FB, FT, cx_laws_szStringS, wrapI, hc, loop_laws_szStringS, goE_szR]
    unfold lft
    (repeat' split) <;> first | rfl | omega | (simp only [Option.some.injEq, Prod.mk.injEq, AV.int.injEq, AV.bool.injEq, AV.str.injEq, true_and, and_true]; omega)
theorem sem_laws_szEntry (x : DEntry) (g : gdEntry x) (n : Int) (h1 : -1 ≤ n) (h2 : n ≤ 4611686018427387904) : S_laws_szEntry.sem [.agg (cEntry x), .int .i64 n] = some (.int .i64 (lft n (wtEntry x)), []) := by
  obtain ⟨g0, g1, g2⟩ := (show gdS x.Name ∧ gdS x.Param ∧ i64 x.Body from g)
  simp only [gdS] at g0 g1
  unfold wtEntry
  have kW := lft_or n (x.Name.size + x.Param.size)
  rw [sg_laws_szEntry, sem_go]
  by_cases c0 : n - ((x.Name.size : Nat) : Int) < 0
  · simp (maxSteps := 10000000) (disch := first | assumption | omega) only [F_laws_szEntry, params, EG, EL, ↓reduceIte, Nat.reduceEqDiff, Nat.reduceAdd, Nat.reduceSub, Nat.reduceMul, Nat.reduceLeDiff, Nat.reduceLT, Int.reduceLT, Int.reduceLE, Int.reduceEq, Int.reduceToNat, reduceCtorEq, FB, FT, cx_laws_szEntry, wrapI, neg1_lt, c0]
    first | done | (simp only [Option.some.injEq, Prod.mk.injEq, AV.int.injEq, AV.bool.injEq, AV.str.injEq, true_and, and_true]; omega)
  · skip
    by_cases c1 : n - ((x.Name.size : Nat) : Int) - ((x.Param.size : Nat) : Int) < 0
    · simp (maxSteps := 10000000) (disch := first | assumption | omega) only [F_laws_szEntry, params, EG, EL, ↓reduceIte, Nat.reduceEqDiff, Nat.reduceAdd, Nat.reduceSub, Nat.reduceMul, Nat.reduceLeDiff, Nat.reduceLT, Int.reduceLT, Int.reduceLE, Int.reduceEq, Int.reduceToNat, reduceCtorEq, FB, FT, cx_laws_szEntry, wrapI, neg1_lt, c0, c1]
      first | done | (simp only [Option.some.injEq, Prod.mk.injEq, AV.int.injEq, AV.bool.injEq, AV.str.injEq, true_and, and_true]; omega)
    · skip
      simp (maxSteps := 10000000) (disch := first | assumption | omega) only [F_laws_szEntry, params, EG, EL, ↓reduceIte, Nat.reduceEqDiff, Nat.reduceAdd, Nat.reduceSub, Nat.reduceMul, Nat.reduceLeDiff, Nat.reduceLT, Int.reduceLT, Int.reduceLE, Int.reduceEq, Int.reduceToNat, reduceCtorEq, FB, FT, cx_laws_szEntry, wrapI, neg1_lt, c0, c1]
      first | done | rfl | (simp only [Option.some.injEq, Prod.mk.injEq, AV.int.injEq, AV.bool.injEq, AV.str.injEq, true_and, and_true]; omega)
theorem loop_laws_szEntryS (xs : List DEntry) (g : ∀ y ∈ xs, gdEntry y) (hl : xs.length ≤ 140737488351232) (n : Int) (h1 : 0 ≤ n) (h2 : n ≤ 4611686018427387904) :
    loopV X_laws_szEntryS 0 [0, 1, 5] [(1, [1]), (0, [4])] B0_laws_szEntryS ⟨[(0, .tree 3 (xs.map cEntry)), (1, .int .i64 n), (5, .int .i64 0)], []⟩ = szR 4 n (tot wtEntry xs) := by
  refine loop_list xs (fun _ m => 0 ≤ m ∧ m ≤ 4611686018427387904) (fun i (m : Int) => ⟨[(0, .tree 3 (xs.map cEntry)), (1, .int .i64 m), (5, .int .i64 ((i : Nat) : Int))], []⟩) (fun rest m => szR 4 m (tot wtEntry rest)) ?_ ?_ n ⟨h1, h2⟩
  · rintro m ⟨m1, m2⟩
    rw [loopV_by B0_laws_szEntryS.eq_1]
    simp only [EG, EL, ↓reduceIte, Nat.reduceEqDiff, Nat.reduceAdd, Nat.reduceSub, Nat.reduceMul, Nat.reduceLeDiff, Nat.reduceLT, Int.reduceLT, Int.reduceLE, Int.reduceEq, Int.reduceToNat, reduceCtorEq, int_lt_irrefl]
    exact szR_zero m1
  · rintro i h x rest m rfl rfl ⟨m1, m2⟩ ih
    have hi : (i : Int) < (xs.length : Int) := by omega
    have hx := g _ (List.getElem_mem h)
    skip
    rw [loopV_by B0_laws_szEntryS.eq_1]
    by_cases hc : m - ((wtEntry xs[i] : Nat) : Int) < 0
    · have hq : lft m (wtEntry xs[i]) = -1 := if_pos hc
      simp (maxSteps := 10000000) (disch := first | assumption | omega) only [EG, EL, ↓reduceIte, Nat.reduceEqDiff, Nat.reduceAdd, Nat.reduceSub, Nat.reduceMul, Nat.reduceLeDiff, Nat.reduceLT, Int.reduceLT, Int.reduceLE, Int.reduceEq, Int.reduceToNat, reduceCtorEq, FB, FT, hi, wrap_succ, getRow _ _ h, cx_laws_szEntryS, cl_laws_szEntry, sem_laws_szEntry, hc, hq, neg1_lt]
      exact szR_neg hc
    · have hq : lft m (wtEntry xs[i]) = m - ((wtEntry xs[i] : Nat) : Int) := if_neg hc
      simp (maxSteps := 10000000) (disch := first | assumption | omega) only [EG, EL, ↓reduceIte, Nat.reduceEqDiff, Nat.reduceAdd, Nat.reduceSub, Nat.reduceMul, Nat.reduceLeDiff, Nat.reduceLT, Int.reduceLT, Int.reduceLE, Int.reduceEq, Int.reduceToNat, reduceCtorEq, FB, FT, hi, wrap_succ, getRow _ _ h, cx_laws_szEntryS, cl_laws_szEntry, sem_laws_szEntry, hc, hq, neg1_lt]
      skip
      rw [ih _ ⟨by omega, by omega⟩]
      exact szR_pos
theorem sem_laws_szEntryS (xs : List DEntry) (h : xs.length ≤ 140737488351232) (g : ∀ y ∈ xs, gdEntry y) (n : Int) (h1 : -1 ≤ n) (h2 : n ≤ 4611686018427387904) : S_laws_szEntryS.sem [.tree 3 (xs.map cEntry), .int .i64 n] = some (.int .i64 (lft n (xs.length + tot wtEntry xs)), []) := by
  rw [sg_laws_szEntryS, sem_go]
  by_cases hc : n - (xs.length : Int) < 0
  · simp (maxSteps := 10000000) (disch := omega) only [F_laws_szEntryS, params, EG, EL, ↓reduceIte, Nat.reduceEqDiff, Nat.reduceAdd, Nat.reduceSub, Nat.reduceMul, Nat.reduceLeDiff, Nat.reduceLT, Int.reduceLT, Int.reduceLE, Int.reduceEq, Int.reduceToNat, reduceCtorEq, FB, FT, cx_laws_szEntryS, cl_laws_szEntry, sem_laws_szEntry, wrapI, hc, lft]
    rw [if_pos (by omega)]
  · simp (maxSteps := 10000000) (disch := first | assumption | omega) only [F_laws_szEntryS, params, EG, EL, ↓reduceIte, Nat.reduceEqDiff, Nat.reduceAdd, Nat.reduceSub, Nat.reduceMul, Nat.reduceLeDiff, Nat.reduceLT, Int.reduceLT, Int.reduceLE, Int.reduceEq, Int.reduceToNat, reduceCtorEq, FB, FT, cx_laws_szEntryS, cl_laws_szEntry, sem_laws_szEntry, wrapI, hc, loop_laws_szEntryS, goE_szR]
    unfold lft
    (repeat' split) <;> first | rfl | omega | (simp only [Option.some.injEq, Prod.mk.injEq, AV.int.injEq, AV.bool.injEq, AV.str.injEq, true_and, and_true]; omega)
theorem sem_laws_szMonitor (x : DMonitor) (g : gdMonitor x) (n : Int) (h1 : -1 ≤ n) (h2 : n ≤ 4611686018427387904) : S_laws_szMonitor.sem [.agg (cMonitor x), .int .i64 n] = some (.int .i64 (lft n (wtMonitor x)), []) := by
  obtain ⟨g0, ⟨g1, g1e⟩, ⟨g2, g2e⟩, ⟨g3, g3e⟩⟩ := (show gdS x.Name ∧ (x.Vars.length ≤ 140737488351232 ∧ ∀ y ∈ x.Vars, gdS y) ∧ (x.Queues.length ≤ 140737488351232 ∧ ∀ y ∈ x.Queues, gdS y) ∧ (x.Entries.length ≤ 140737488351232 ∧ ∀ y ∈ x.Entries, gdEntry y) from g)
  simp only [gdS] at g0
  unfold wtMonitor
  have kW := lft_or n (x.Name.size + (x.Vars.length + tot wtS x.Vars) + (x.Queues.length + tot wtS x.Queues) + (x.Entries.length + tot wtEntry x.Entries))
  rw [sg_laws_szMonitor, sem_go]
  by_cases c0 : n - ((x.Name.size : Nat) : Int) < 0
  · simp (maxSteps := 10000000) (disch := first | assumption | omega) only [F_laws_szMonitor, params, EG, EL, ↓reduceIte, Nat.reduceEqDiff, Nat.reduceAdd, Nat.reduceSub, Nat.reduceMul, Nat.reduceLeDiff, Nat.reduceLT, Int.reduceLT, Int.reduceLE, Int.reduceEq, Int.reduceToNat, reduceCtorEq, FB, FT, cx_laws_szMonitor, cl_laws_szStringS, sem_laws_szStringS, cl_laws_szEntryS, sem_laws_szEntryS, wrapI, neg1_lt, c0]
    first | done | (simp only [Option.some.injEq, Prod.mk.injEq, AV.int.injEq, AV.bool.injEq, AV.str.injEq, true_and, and_true]; omega)
  · skip
    rcases lft_or (n - ((x.Name.size : Nat) : Int)) (x.Vars.length + tot wtS x.Vars) with ⟨e1, f1⟩ | ⟨e1, f1⟩
    · simp (maxSteps := 10000000) (disch := first | assumption | omega) only [F_laws_szMonitor, params, EG, EL, ↓reduceIte, Nat.reduceEqDiff, Nat.reduceAdd, Nat.reduceSub, Nat.reduceMul, Nat.reduceLeDiff, Nat.reduceLT, Int.reduceLT, Int.reduceLE, Int.reduceEq, Int.reduceToNat, reduceCtorEq, FB, FT, cx_laws_szMonitor, cl_laws_szStringS, sem_laws_szStringS, cl_laws_szEntryS, sem_laws_szEntryS, wrapI, neg1_lt, c0, e1]
      first | done | (simp only [Option.some.injEq, Prod.mk.injEq, AV.int.injEq, AV.bool.injEq, AV.str.injEq, true_and, and_true]; omega)
    · have c1 : ¬ n - ((x.Name.size : Nat) : Int) - ((x.Vars.length + tot wtS x.Vars : Nat) : Int) < 0 := by omega
      rcases lft_or (n - ((x.Name.size : Nat) : Int) - ((x.Vars.length + tot wtS x.Vars : Nat) : Int)) (x.Queues.length + tot wtS x.Queues) with ⟨e2, f2⟩ | ⟨e2, f2⟩
      · simp (maxSteps := 10000000) (disch := first | assumption | omega) only [F_laws_szMonitor, params, EG, EL, ↓reduceIte, Nat.reduceEqDiff, Nat.reduceAdd, Nat.reduceSub, Nat.reduceMul, Nat.reduceLeDiff, Nat.reduceLT, Int.reduceLT, Int.reduceLE, Int.reduceEq, Int.reduceToNat, reduceCtorEq, FB, FT, cx_laws_szMonitor, cl_laws_szStringS, sem_laws_szStringS, cl_laws_szEntryS, sem_laws_szEntryS, wrapI, neg1_lt, c0, e1, c1, e2]
        first | done | (simp only [Option.some.injEq, Prod.mk.injEq, AV.int.injEq, AV.bool.injEq, AV.str.injEq, true_and, and_true]; omega)
      · have c2 : ¬ n - ((x.Name.size : Nat) : Int) - ((x.Vars.length + tot wtS x.Vars : Nat) : Int) - ((x.Queues.length + tot wtS x.Queues : Nat) : Int) < 0 := by omega
        rcases lft_or (n - ((x.Name.size : Nat) : Int) - ((x.Vars.length + tot wtS x.Vars : Nat) : Int) - ((x.Queues.length + tot wtS x.Queues : Nat) : Int)) (x.Entries.length + tot wtEntry x.Entries) with ⟨e3, f3⟩ | ⟨e3, f3⟩
        · simp (maxSteps := 10000000) (disch := first | assumption | omega) only [F_laws_szMonitor, params, EG, EL, ↓reduceIte, Nat.reduceEqDiff, Nat.reduceAdd, Nat.reduceSub, Nat.reduceMul, Nat.reduceLeDiff, Nat.reduceLT, Int.reduceLT, Int.reduceLE, Int.reduceEq, Int.reduceToNat, reduceCtorEq, FB, FT, cx_laws_szMonitor, cl_laws_szStringS, sem_laws_szStringS, cl_laws_szEntryS, sem_laws_szEntryS, wrapI, neg1_lt, c0, e1, c1, e2, c2, e3]
          first | done | (simp only [Option.some.injEq, Prod.mk.injEq, AV.int.injEq, AV.bool.injEq, AV.str.injEq, true_and, and_true]; omega)
        · have c3 : ¬ n - ((x.Name.size : Nat) : Int) - ((x.Vars.length + tot wtS x.Vars : Nat) : Int) - ((x.Queues.length + tot wtS x.Queues : Nat) : Int) - ((x.Entries.length + tot wtEntry x.Entries : Nat) : Int) < 0 := by omega
          simp (maxSteps := 10000000) (disch := first | assumption | omega) only [F_laws_szMonitor, params, EG, EL, ↓reduceIte, Nat.reduceEqDiff, Nat.reduceAdd, Nat.reduceSub, Nat.reduceMul, Nat.reduceLeDiff, Nat.reduceLT, Int.reduceLT, Int.reduceLE, Int.reduceEq, Int.reduceToNat, reduceCtorEq, FB, FT, cx_laws_szMonitor, cl_laws_szStringS, sem_laws_szStringS, cl_laws_szEntryS, sem_laws_szEntryS, wrapI, neg1_lt, c0, e1, c1, e2, c2, e3, c3]
          first | done | rfl | (simp only [Option.some.injEq, Prod.mk.injEq, AV.int.injEq, AV.bool.injEq, AV.str.injEq, true_and, and_true]; omega)
theorem loop_laws_szMonitorS (xs : List DMonitor) (g : ∀ y ∈ xs, gdMonitor y) (hl : xs.length ≤ 140737488351232) (n : Int) (h1 : 0 ≤ n) (h2 : n ≤ 4611686018427387904) :
    loopV X_laws_szMonitorS 0 [0, 1, 5] [(1, [1]), (0, [4])] B0_laws_szMonitorS ⟨[(0, .tree 4 (xs.map cMonitor)), (1, .int .i64 n), (5, .int .i64 0)], []⟩ = szR 4 n (tot wtMonitor xs) := by
  refine loop_list xs (fun _ m => 0 ≤ m ∧ m ≤ 4611686018427387904) (fun i (m : Int) => ⟨[(0, .tree 4 (xs.map cMonitor)), (1, .int .i64 m), (5, .int .i64 ((i : Nat) : Int))], []⟩) (fun rest m => szR 4 m (tot wtMonitor rest)) ?_ ?_ n ⟨h1, h2⟩
  · rintro m ⟨m1, m2⟩
    rw [loopV_by B0_laws_szMonitorS.eq_1]
    simp only [EG, EL, ↓reduceIte, Nat.reduceEqDiff, Nat.reduceAdd, Nat.reduceSub, Nat.reduceMul, Nat.reduceLeDiff, Nat.reduceLT, Int.reduceLT, Int.reduceLE, Int.reduceEq, Int.reduceToNat, reduceCtorEq, int_lt_irrefl]
    exact szR_zero m1
  · rintro i h x rest m rfl rfl ⟨m1, m2⟩ ih
    have hi : (i : Int) < (xs.length : Int) := by omega
    have hx := g _ (List.getElem_mem h)
    skip
    rw [loopV_by B0_laws_szMonitorS.eq_1]
    by_cases hc : m - ((wtMonitor xs[i] : Nat) : Int) < 0
    · have hq : lft m (wtMonitor xs[i]) = -1 := if_pos hc
      simp (maxSteps := 10000000) (disch := first | assumption | omega) only [EG, EL, ↓reduceIte, Nat.reduceEqDiff, Nat.reduceAdd, Nat.reduceSub, Nat.reduceMul, Nat.reduceLeDiff, Nat.reduceLT, Int.reduceLT, Int.reduceLE, Int.reduceEq, Int.reduceToNat, reduceCtorEq, FB, FT, hi, wrap_succ, getRow _ _ h, cx_laws_szMonitorS, cl_laws_szMonitor, sem_laws_szMonitor, hc, hq, neg1_lt]
      exact szR_neg hc
    · have hq : lft m (wtMonitor xs[i]) = m - ((wtMonitor xs[i] : Nat) : Int) := if_neg hc
      simp (maxSteps := 10000000) (disch := first | assumption | omega) only [EG, EL, ↓reduceIte, Nat.reduceEqDiff, Nat.reduceAdd, Nat.reduceSub, Nat.reduceMul, Nat.reduceLeDiff, Nat.reduceLT, Int.reduceLT, Int.reduceLE, Int.reduceEq, Int.reduceToNat, reduceCtorEq, FB, FT, hi, wrap_succ, getRow _ _ h, cx_laws_szMonitorS, cl_laws_szMonitor, sem_laws_szMonitor, hc, hq, neg1_lt]
      skip
      rw [ih _ ⟨by omega, by omega⟩]
      exact szR_pos
theorem sem_laws_szMonitorS (xs : List DMonitor) (h : xs.length ≤ 140737488351232) (g : ∀ y ∈ xs, gdMonitor y) (n : Int) (h1 : -1 ≤ n) (h2 : n ≤ 4611686018427387904) : S_laws_szMonitorS.sem [.tree 4 (xs.map cMonitor), .int .i64 n] = some (.int .i64 (lft n (xs.length + tot wtMonitor xs)), []) := by
  rw [sg_laws_szMonitorS, sem_go]
  by_cases hc : n - (xs.length : Int) < 0
  · simp (maxSteps := 10000000) (disch := omega) only [F_laws_szMonitorS, params, EG, EL, ↓reduceIte, Nat.reduceEqDiff, Nat.reduceAdd, Nat.reduceSub, Nat.reduceMul, Nat.reduceLeDiff, Nat.reduceLT, Int.reduceLT, Int.reduceLE, Int.reduceEq, Int.reduceToNat, reduceCtorEq, FB, FT, cx_laws_szMonitorS, cl_laws_szMonitor, sem_laws_szMonitor, wrapI, hc, lft]
    rw [if_pos (by omega)]
  · simp (maxSteps := 10000000) (disch := first | assumption | omega) only [F_laws_szMonitorS, params, EG, EL, ↓reduceIte, Nat.reduceEqDiff, Nat.reduceAdd, Nat.reduceSub, Nat.reduceMul, Nat.reduceLeDiff, Nat.reduceLT, Int.reduceLT, Int.reduceLE, Int.reduceEq, Int.reduceToNat, reduceCtorEq, FB, FT, cx_laws_szMonitorS, cl_laws_szMonitor, sem_laws_szMonitor, wrapI, hc, loop_laws_szMonitorS, goE_szR]
    unfold lft
    (repeat' split) <;> first | rfl | omega | (simp only [Option.some.injEq, Prod.mk.injEq, AV.int.injEq, AV.bool.injEq, AV.str.injEq, true_and, and_true]; omega)
theorem sem_laws_szProcess (x : DProcess) (g : gdProcess x) (n : Int) (h1 : -1 ≤ n) (h2 : n ≤ 4611686018427387904) : S_laws_szProcess.sem [.agg (cProcess x), .int .i64 n] = some (.int .i64 (lft n (wtProcess x)), []) := by
  obtain ⟨g0, ⟨g1, g1e⟩, ⟨g2, g2e⟩, g3⟩ := (show gdS x.Name ∧ (x.Uses.length ≤ 140737488351232 ∧ ∀ y ∈ x.Uses, gdS y) ∧ (x.Vars.length ≤ 140737488351232 ∧ ∀ y ∈ x.Vars, gdS y) ∧ i64 x.Body from g)
  simp only [gdS] at g0
  unfold wtProcess
  have kW := lft_or n (x.Name.size + (x.Uses.length + tot wtS x.Uses) + (x.Vars.length + tot wtS x.Vars))
  rw [sg_laws_szProcess, sem_go]
  by_cases c0 : n - ((x.Name.size : Nat) : Int) < 0
  · simp (maxSteps := 10000000) (disch := first | assumption | omega) only [F_laws_szProcess, params, EG, EL, ↓reduceIte, Nat.reduceEqDiff, Nat.reduceAdd, Nat.reduceSub, Nat.reduceMul, Nat.reduceLeDiff, Nat.reduceLT, Int.reduceLT, Int.reduceLE, Int.reduceEq, Int.reduceToNat, reduceCtorEq, FB, FT, cx_laws_szProcess, cl_laws_szStringS, sem_laws_szStringS, wrapI, neg1_lt, c0]
    first | done | (simp only [Option.some.injEq, Prod.mk.injEq, AV.int.injEq, AV.bool.injEq, AV.str.injEq, true_and, and_true]; omega)
  · skip
    rcases lft_or (n - ((x.Name.size : Nat) : Int)) (x.Uses.length + tot wtS x.Uses) with ⟨e1, f1⟩ | ⟨e1, f1⟩
    · simp (maxSteps := 10000000) (disch := first | assumption | omega) only [F_laws_szProcess, params, EG, EL, ↓reduceIte, Nat.reduceEqDiff, Nat.reduceAdd, Nat.reduceSub, Nat.reduceMul, Nat.reduceLeDiff, Nat.reduceLT, Int.reduceLT, Int.reduceLE, Int.reduceEq, Int.reduceToNat, reduceCtorEq, FB, FT, cx_laws_szProcess, cl_laws_szStringS, sem_laws_szStringS, wrapI, neg1_lt, c0, e1]
      first | done | (simp only [Option.some.injEq, Prod.mk.injEq, AV.int.injEq, AV.bool.injEq, AV.str.injEq, true_and, and_true]; omega)
    · have c1 : ¬ n - ((x.Name.size : Nat) : Int) - ((x.Uses.length + tot wtS x.Uses : Nat) : Int) < 0 := by omega
      rcases lft_or (n - ((x.Name.size : Nat) : Int) - ((x.Uses.length + tot wtS x.Uses : Nat) : Int)) (x.Vars.length + tot wtS x.Vars) with ⟨e2, f2⟩ | ⟨e2, f2⟩
      · simp (maxSteps := 10000000) (disch := first | assumption | omega) only [F_laws_szProcess, params, EG, EL, ↓reduceIte, Nat.reduceEqDiff, Nat.reduceAdd, Nat.reduceSub, Nat.reduceMul, Nat.reduceLeDiff, Nat.reduceLT, Int.reduceLT, Int.reduceLE, Int.reduceEq, Int.reduceToNat, reduceCtorEq, FB, FT, cx_laws_szProcess, cl_laws_szStringS, sem_laws_szStringS, wrapI, neg1_lt, c0, e1, c1, e2]
        first | done | (simp only [Option.some.injEq, Prod.mk.injEq, AV.int.injEq, AV.bool.injEq, AV.str.injEq, true_and, and_true]; omega)
      · have c2 : ¬ n - ((x.Name.size : Nat) : Int) - ((x.Uses.length + tot wtS x.Uses : Nat) : Int) - ((x.Vars.length + tot wtS x.Vars : Nat) : Int) < 0 := by omega
        simp (maxSteps := 10000000) (disch := first | assumption | omega) only [F_laws_szProcess, params, EG, EL, ↓reduceIte, Nat.reduceEqDiff, Nat.reduceAdd, Nat.reduceSub, Nat.reduceMul, Nat.reduceLeDiff, Nat.reduceLT, Int.reduceLT, Int.reduceLE, Int.reduceEq, Int.reduceToNat, reduceCtorEq, FB, FT, cx_laws_szProcess, cl_laws_szStringS, sem_laws_szStringS, wrapI, neg1_lt, c0, e1, c1, e2, c2]
        first | done | rfl | (simp only [Option.some.injEq, Prod.mk.injEq, AV.int.injEq, AV.bool.injEq, AV.str.injEq, true_and, and_true]; omega)
theorem loop_laws_szProcessS (xs : List DProcess) (g : ∀ y ∈ xs, gdProcess y) (hl : xs.length ≤ 140737488351232) (n : Int) (h1 : 0 ≤ n) (h2 : n ≤ 4611686018427387904) :
    loopV X_laws_szProcessS 0 [0, 1, 5] [(1, [1]), (0, [4])] B0_laws_szProcessS ⟨[(0, .tree 4 (xs.map cProcess)), (1, .int .i64 n), (5, .int .i64 0)], []⟩ = szR 4 n (tot wtProcess xs) := by
  refine loop_list xs (fun _ m => 0 ≤ m ∧ m ≤ 4611686018427387904) (fun i (m : Int) => ⟨[(0, .tree 4 (xs.map cProcess)), (1, .int .i64 m), (5, .int .i64 ((i : Nat) : Int))], []⟩) (fun rest m => szR 4 m (tot wtProcess rest)) ?_ ?_ n ⟨h1, h2⟩
  · rintro m ⟨m1, m2⟩
    rw [loopV_by B0_laws_szProcessS.eq_1]
    simp only [EG, EL, ↓reduceIte, Nat.reduceEqDiff, Nat.reduceAdd, Nat.reduceSub, Nat.reduceMul, Nat.reduceLeDiff, Nat.reduceLT, Int.reduceLT, Int.reduceLE, Int.reduceEq, Int.reduceToNat, reduceCtorEq, int_lt_irrefl]
    exact szR_zero m1
  · rintro i h x rest m rfl rfl ⟨m1, m2⟩ ih
    have hi : (i : Int) < (xs.length : Int) := by omega
    have hx := g _ (List.getElem_mem h)
    skip
    rw [loopV_by B0_laws_szProcessS.eq_1]
    by_cases hc : m - ((wtProcess xs[i] : Nat) : Int) < 0
    · have hq : lft m (wtProcess xs[i]) = -1 := if_pos hc
      simp (maxSteps := 10000000) (disch := first | assumption | omega) only [EG, EL, ↓reduceIte, Nat.reduceEqDiff, Nat.reduceAdd, Nat.reduceSub, Nat.reduceMul, Nat.reduceLeDiff, Nat.reduceLT, Int.reduceLT, Int.reduceLE, Int.reduceEq, Int.reduceToNat, reduceCtorEq, FB, FT, hi, wrap_succ, getRow _ _ h, cx_laws_szProcessS, cl_laws_szProcess, sem_laws_szProcess, hc, hq, neg1_lt]
      exact szR_neg hc
    · have hq : lft m (wtProcess xs[i]) = m - ((wtProcess xs[i] : Nat) : Int) := if_neg hc
      simp (maxSteps := 10000000) (disch := first | assumption | omega) only [EG, EL, ↓reduceIte, Nat.reduceEqDiff, Nat.reduceAdd, Nat.reduceSub, Nat.reduceMul, Nat.reduceLeDiff, Nat.reduceLT, Int.reduceLT, Int.reduceLE, Int.reduceEq, Int.reduceToNat, reduceCtorEq, FB, FT, hi, wrap_succ, getRow _ _ h, cx_laws_szProcessS, cl_laws_szProcess, sem_laws_szProcess, hc, hq, neg1_lt]
      skip
      rw [ih _ ⟨by omega, by omega⟩]
      exact szR_pos
theorem sem_laws_szProcessS (xs : List DProcess) (h : xs.length ≤ 140737488351232) (g : ∀ y ∈ xs, gdProcess y) (n : Int) (h1 : -1 ≤ n) (h2 : n ≤ 4611686018427387904) : S_laws_szProcessS.sem [.tree 4 (xs.map cProcess), .int .i64 n] = some (.int .i64 (lft n (xs.length + tot wtProcess xs)), []) := by
  rw [sg_laws_szProcessS, sem_go]
  by_cases hc : n - (xs.length : Int) < 0
  · simp (maxSteps := 10000000) (disch := omega) only [F_laws_szProcessS, params, EG, EL, ↓reduceIte, Nat.reduceEqDiff, Nat.reduceAdd, Nat.reduceSub, Nat.reduceMul, Nat.reduceLeDiff, Nat.reduceLT, Int.reduceLT, Int.reduceLE, Int.reduceEq, Int.reduceToNat, reduceCtorEq, FB, FT, cx_laws_szProcessS, cl_laws_szProcess, sem_laws_szProcess, wrapI, hc, lft]
    rw [if_pos (by omega)]
  · simp (maxSteps := 10000000) (disch := first | assumption | omega) only [F_laws_szProcessS, params, EG, EL, ↓reduceIte, Nat.reduceEqDiff, Nat.reduceAdd, Nat.reduceSub, Nat.reduceMul, Nat.reduceLeDiff, Nat.reduceLT, Int.reduceLT, Int.reduceLE, Int.reduceEq, Int.reduceToNat, reduceCtorEq, FB, FT, cx_laws_szProcessS, cl_laws_szProcess, sem_laws_szProcess, wrapI, hc, loop_laws_szProcessS, goE_szR]
    unfold lft
    (repeat' split) <;> first | rfl | omega | (simp only [Option.some.injEq, Prod.mk.injEq, AV.int.injEq, AV.bool.injEq, AV.str.injEq, true_and, and_true]; omega)
theorem sem_laws_szProgram (x : DProgram) (g : gdProgram x) (n : Int) (h1 : -1 ≤ n) (h2 : n ≤ 4611686018427387904) : S_laws_szProgram.sem [.agg (cProgram x), .int .i64 n] = some (.int .i64 (lft n (wtProgram x)), []) := by
  obtain ⟨⟨g0, g0e⟩, ⟨g1, g1e⟩, ⟨g2, g2e⟩⟩ := (show (x.Nodes.length ≤ 140737488351232 ∧ ∀ y ∈ x.Nodes, gdNode y) ∧ (x.Monitors.length ≤ 140737488351232 ∧ ∀ y ∈ x.Monitors, gdMonitor y) ∧ (x.Processes.length ≤ 140737488351232 ∧ ∀ y ∈ x.Processes, gdProcess y) from g)
  skip
  unfold wtProgram
  have kW := lft_or n ((x.Nodes.length + tot wtNode x.Nodes) + (x.Monitors.length + tot wtMonitor x.Monitors) + (x.Processes.length + tot wtProcess x.Processes))
  rw [sg_laws_szProgram, sem_go]
  rcases lft_or (n) (x.Nodes.length + tot wtNode x.Nodes) with ⟨e0, f0⟩ | ⟨e0, f0⟩
  · simp (maxSteps := 10000000) (disch := first | assumption | omega) only [F_laws_szProgram, params, EG, EL, ↓reduceIte, Nat.reduceEqDiff, Nat.reduceAdd, Nat.reduceSub, Nat.reduceMul, Nat.reduceLeDiff, Nat.reduceLT, Int.reduceLT, Int.reduceLE, Int.reduceEq, Int.reduceToNat, reduceCtorEq, FB, FT, cx_laws_szProgram, cl_laws_szNodeS, sem_laws_szNodeS, cl_laws_szMonitorS, sem_laws_szMonitorS, cl_laws_szProcessS, sem_laws_szProcessS, wrapI, neg1_lt, e0]
    first | done | (simp only [Option.some.injEq, Prod.mk.injEq, AV.int.injEq, AV.bool.injEq, AV.str.injEq, true_and, and_true]; omega)
  · have c0 : ¬ n - ((x.Nodes.length + tot wtNode x.Nodes : Nat) : Int) < 0 := by omega
    rcases lft_or (n - ((x.Nodes.length + tot wtNode x.Nodes : Nat) : Int)) (x.Monitors.length + tot wtMonitor x.Monitors) with ⟨e1, f1⟩ | ⟨e1, f1⟩
    · simp (maxSteps := 10000000) (disch := first | assumption | omega) only [F_laws_szProgram, params, EG, EL, ↓reduceIte, Nat.reduceEqDiff, Nat.reduceAdd, Nat.reduceSub, Nat.reduceMul, Nat.reduceLeDiff, Nat.reduceLT, Int.reduceLT, Int.reduceLE, Int.reduceEq, Int.reduceToNat, reduceCtorEq, FB, FT, cx_laws_szProgram, cl_laws_szNodeS, sem_laws_szNodeS, cl_laws_szMonitorS, sem_laws_szMonitorS, cl_laws_szProcessS, sem_laws_szProcessS, wrapI, neg1_lt, e0, c0, e1]
      first | done | (simp only [Option.some.injEq, Prod.mk.injEq, AV.int.injEq, AV.bool.injEq, AV.str.injEq, true_and, and_true]; omega)
    · have c1 : ¬ n - ((x.Nodes.length + tot wtNode x.Nodes : Nat) : Int) - ((x.Monitors.length + tot wtMonitor x.Monitors : Nat) : Int) < 0 := by omega
      rcases lft_or (n - ((x.Nodes.length + tot wtNode x.Nodes : Nat) : Int) - ((x.Monitors.length + tot wtMonitor x.Monitors : Nat) : Int)) (x.Processes.length + tot wtProcess x.Processes) with ⟨e2, f2⟩ | ⟨e2, f2⟩
      · simp (maxSteps := 10000000) (disch := first | assumption | omega) only [F_laws_szProgram, params, EG, EL, ↓reduceIte, Nat.reduceEqDiff, Nat.reduceAdd, Nat.reduceSub, Nat.reduceMul, Nat.reduceLeDiff, Nat.reduceLT, Int.reduceLT, Int.reduceLE, Int.reduceEq, Int.reduceToNat, reduceCtorEq, FB, FT, cx_laws_szProgram, cl_laws_szNodeS, sem_laws_szNodeS, cl_laws_szMonitorS, sem_laws_szMonitorS, cl_laws_szProcessS, sem_laws_szProcessS, wrapI, neg1_lt, e0, c0, e1, c1, e2]
        first | done | (simp only [Option.some.injEq, Prod.mk.injEq, AV.int.injEq, AV.bool.injEq, AV.str.injEq, true_and, and_true]; omega)
      · have c2 : ¬ n - ((x.Nodes.length + tot wtNode x.Nodes : Nat) : Int) - ((x.Monitors.length + tot wtMonitor x.Monitors : Nat) : Int) - ((x.Processes.length + tot wtProcess x.Processes : Nat) : Int) < 0 := by omega
        simp (maxSteps := 10000000) (disch := first | assumption | omega) only [F_laws_szProgram, params, EG, EL, ↓reduceIte, Nat.reduceEqDiff, Nat.reduceAdd, Nat.reduceSub, Nat.reduceMul, Nat.reduceLeDiff, Nat.reduceLT, Int.reduceLT, Int.reduceLE, Int.reduceEq, Int.reduceToNat, reduceCtorEq, FB, FT, cx_laws_szProgram, cl_laws_szNodeS, sem_laws_szNodeS, cl_laws_szMonitorS, sem_laws_szMonitorS, cl_laws_szProcessS, sem_laws_szProcessS, wrapI, neg1_lt, e0, c0, e1, c1, e2, c2]
        first | done | rfl | (simp only [Option.some.injEq, Prod.mk.injEq, AV.int.injEq, AV.bool.injEq, AV.str.injEq, true_and, and_true]; omega)
theorem loop_laws_toIntS (xs : List Int) (hl : xs.length ≤ 1048576) :
    loopV X_laws_toIntS 0 [0, 3, 4] [(1, [3])] B0_laws_toIntS ⟨[(0, .tree 1 (xs.map cI)), (3, .sl ⟨0, none, 0⟩ 1 0 xs.length), (4, .int .i64 0)], [some ⟨false, 0, 1, fillR cI [.int .i64 0] xs 0⟩]⟩ = some (.exit 0, ⟨[(3, .sl ⟨0, none, 0⟩ 1 0 xs.length)], [some ⟨false, 0, 1, xs.map cI⟩]⟩) := by
  refine loop_list xs (fun _ (_ : Unit) => True) (fun i _ => ⟨[(0, .tree 1 (xs.map cI)), (3, .sl ⟨0, none, 0⟩ 1 0 xs.length), (4, .int .i64 ((i : Nat) : Int))], [some ⟨false, 0, 1, fillR cI [.int .i64 0] xs i⟩]⟩) (fun _ _ => some (.exit 0, ⟨[(3, .sl ⟨0, none, 0⟩ 1 0 xs.length)], [some ⟨false, 0, 1, xs.map cI⟩]⟩)) ?_ ?_ () trivial
  · intro _ _
    rw [loopV_by B0_laws_toIntS.eq_1]
    simp only [EG, EL, ↓reduceIte, Nat.reduceEqDiff, Nat.reduceAdd, Nat.reduceSub, Nat.reduceMul, Nat.reduceLeDiff, Nat.reduceLT, Int.reduceLT, Int.reduceLE, Int.reduceEq, Int.reduceToNat, reduceCtorEq, int_lt_irrefl, fillR_end]
  · rintro i h x rest _ rfl rfl _ ih
    have hi : (i : Int) < (xs.length : Int) := by omega
    skip
    have hf := fillR_set (c := cI) (z := [.int .i64 0]) h rfl
    simp only [cI] at hf
    rw [loopV_by B0_laws_toIntS.eq_1]
    simp (maxSteps := 10000000) (disch := first | assumption | omega) only [EG, EL, ↓reduceIte, Nat.reduceEqDiff, Nat.reduceAdd, Nat.reduceSub, Nat.reduceMul, Nat.reduceLeDiff, Nat.reduceLT, Int.reduceLT, Int.reduceLE, Int.reduceEq, Int.reduceToNat, reduceCtorEq, FB, FT, hi, h, wrap_succ, getRow _ _ h, fillR_get h, fillR_length (Nat.le_of_lt h), cx_laws_toIntS]
    simp only [splice_eq, EG, EL, ↓reduceIte, Nat.reduceEqDiff, Nat.reduceAdd, Nat.reduceSub, Nat.reduceMul, Nat.reduceLeDiff, Nat.reduceLT, Int.reduceLT, Int.reduceLE, Int.reduceEq, Int.reduceToNat, reduceCtorEq, hf]
    exact ih () trivial
theorem sem_laws_toIntS (xs : List Int) (h : xs.length ≤ 1048576) : S_laws_toIntS.sem [.tree 1 (xs.map cI)] = some (.tree 1 (xs.map cI), []) := by
  rw [sg_laws_toIntS, sem_go]
  simp (maxSteps := 10000000) (disch := omega) only [F_laws_toIntS, params, EG, EL, ↓reduceIte, Nat.reduceEqDiff, Nat.reduceAdd, Nat.reduceSub, Nat.reduceMul, Nat.reduceLeDiff, Nat.reduceLT, Int.reduceLT, Int.reduceLE, Int.reduceEq, Int.reduceToNat, reduceCtorEq, FB, FT, cx_laws_toIntS, fillR_zero cI, loop_laws_toIntS xs h]
  rw [if_pos (by omega)]
theorem sem_laws_toNode (x : DNode) (h : wtNode x ≤ 1048576) : S_laws_toNode.sem [.agg (cNode x)] = some (.agg (cNode x), []) := by
  unfold wtNode at h
  rw [sg_laws_toNode, sem_go]
  simp (maxSteps := 10000000) (disch := omega) only [F_laws_toNode, params, EG, EL, ↓reduceIte, Nat.reduceEqDiff, Nat.reduceAdd, Nat.reduceSub, Nat.reduceMul, Nat.reduceLeDiff, Nat.reduceLT, Int.reduceLT, Int.reduceLE, Int.reduceEq, Int.reduceToNat, reduceCtorEq, FB, FT, cx_laws_toNode, cl_laws_toIntS, sem_laws_toIntS]
theorem loop_laws_toNodeS (xs : List DNode) (hl : xs.length + tot wtNode xs ≤ 1048576) :
    loopV X_laws_toNodeS 0 [0, 3, 4] [(1, [3])] B0_laws_toNodeS ⟨[(0, .tree 6 (xs.map cNode)), (3, .sl ⟨0, none, 0⟩ 6 0 xs.length), (4, .int .i64 0)], [some ⟨false, 0, 6, fillR cNode [.int .i64 0, .int .i64 0, .str ⟨#[]⟩, .str ⟨#[]⟩, .str ⟨#[]⟩, .tree 1 []] xs 0⟩]⟩ = some (.exit 0, ⟨[(3, .sl ⟨0, none, 0⟩ 6 0 xs.length)], [some ⟨false, 0, 6, xs.map cNode⟩]⟩) := by
  refine loop_list xs (fun _ (_ : Unit) => True) (fun i _ => ⟨[(0, .tree 6 (xs.map cNode)), (3, .sl ⟨0, none, 0⟩ 6 0 xs.length), (4, .int .i64 ((i : Nat) : Int))], [some ⟨false, 0, 6, fillR cNode [.int .i64 0, .int .i64 0, .str ⟨#[]⟩, .str ⟨#[]⟩, .str ⟨#[]⟩, .tree 1 []] xs i⟩]⟩) (fun _ _ => some (.exit 0, ⟨[(3, .sl ⟨0, none, 0⟩ 6 0 xs.length)], [some ⟨false, 0, 6, xs.map cNode⟩]⟩)) ?_ ?_ () trivial
  · intro _ _
    rw [loopV_by B0_laws_toNodeS.eq_1]
    simp only [EG, EL, ↓reduceIte, Nat.reduceEqDiff, Nat.reduceAdd, Nat.reduceSub, Nat.reduceMul, Nat.reduceLeDiff, Nat.reduceLT, Int.reduceLT, Int.reduceLE, Int.reduceEq, Int.reduceToNat, reduceCtorEq, int_lt_irrefl, fillR_end]
  · rintro i h x rest _ rfl rfl _ ih
    have hi : (i : Int) < (xs.length : Int) := by omega
    have hx : wtNode xs[i] ≤ 1048576 := by have := le_tot wtNode (List.getElem_mem h); omega
    have hf := fillR_set (c := cNode) (z := [.int .i64 0, .int .i64 0, .str ⟨#[]⟩, .str ⟨#[]⟩, .str ⟨#[]⟩, .tree 1 []]) h rfl
    simp only [cNode] at hf
    rw [loopV_by B0_laws_toNodeS.eq_1]
    simp (maxSteps := 10000000) (disch := first | assumption | omega) only [EG, EL, ↓reduceIte, Nat.reduceEqDiff, Nat.reduceAdd, Nat.reduceSub, Nat.reduceMul, Nat.reduceLeDiff, Nat.reduceLT, Int.reduceLT, Int.reduceLE, Int.reduceEq, Int.reduceToNat, reduceCtorEq, FB, FT, hi, h, wrap_succ, getRow _ _ h, fillR_get h, fillR_length (Nat.le_of_lt h), cx_laws_toNodeS, cl_laws_toNode, sem_laws_toNode]
    simp only [splice_eq, EG, EL, ↓reduceIte, Nat.reduceEqDiff, Nat.reduceAdd, Nat.reduceSub, Nat.reduceMul, Nat.reduceLeDiff, Nat.reduceLT, Int.reduceLT, Int.reduceLE, Int.reduceEq, Int.reduceToNat, reduceCtorEq, hf]
    exact ih () trivial
theorem sem_laws_toNodeS (xs : List DNode) (h : xs.length + tot wtNode xs ≤ 1048576) : S_laws_toNodeS.sem [.tree 6 (xs.map cNode)] = some (.tree 6 (xs.map cNode), []) := by
  rw [sg_laws_toNodeS, sem_go]
  simp (maxSteps := 10000000) (disch := omega) only [F_laws_toNodeS, params, EG, EL, ↓reduceIte, Nat.reduceEqDiff, Nat.reduceAdd, Nat.reduceSub, Nat.reduceMul, Nat.reduceLeDiff, Nat.reduceLT, Int.reduceLT, Int.reduceLE, Int.reduceEq, Int.reduceToNat, reduceCtorEq, FB, FT, cx_laws_toNodeS, cl_laws_toNode, sem_laws_toNode, fillR_zero cNode, loop_laws_toNodeS xs h]
  rw [if_pos (by omega)]
theorem loop_laws_toStringS (xs : List ByteArray) (hl : xs.length + tot wtS xs ≤ 1048576) :
    loopV X_laws_toStringS 0 [0, 3, 4] [(1, [3])] B0_laws_toStringS ⟨[(0, .tree 1 (xs.map cS)), (3, .sl ⟨0, none, 0⟩ 1 0 xs.length), (4, .int .i64 0)], [some ⟨false, 0, 1, fillR cS [.str ⟨#[]⟩] xs 0⟩]⟩ = some (.exit 0, ⟨[(3, .sl ⟨0, none, 0⟩ 1 0 xs.length)], [some ⟨false, 0, 1, xs.map cS⟩]⟩) := by
  refine loop_list xs (fun _ (_ : Unit) => True) (fun i _ => ⟨[(0, .tree 1 (xs.map cS)), (3, .sl ⟨0, none, 0⟩ 1 0 xs.length), (4, .int .i64 ((i : Nat) : Int))], [some ⟨false, 0, 1, fillR cS [.str ⟨#[]⟩] xs i⟩]⟩) (fun _ _ => some (.exit 0, ⟨[(3, .sl ⟨0, none, 0⟩ 1 0 xs.length)], [some ⟨false, 0, 1, xs.map cS⟩]⟩)) ?_ ?_ () trivial
  · intro _ _
    rw [loopV_by B0_laws_toStringS.eq_1]
    simp only [EG, EL, ↓reduceIte, Nat.reduceEqDiff, Nat.reduceAdd, Nat.reduceSub, Nat.reduceMul, Nat.reduceLeDiff, Nat.reduceLT, Int.reduceLT, Int.reduceLE, Int.reduceEq, Int.reduceToNat, reduceCtorEq, int_lt_irrefl, fillR_end]
  · rintro i h x rest _ rfl rfl _ ih
    have hi : (i : Int) < (xs.length : Int) := by omega
    skip
    have hf := fillR_set (c := cS) (z := [.str ⟨#[]⟩]) h rfl
    simp only [cS] at hf
    rw [loopV_by B0_laws_toStringS.eq_1]
    simp (maxSteps := 10000000) (disch := first | assumption | omega) only [EG, EL, ↓reduceIte, Nat.reduceEqDiff, Nat.reduceAdd, Nat.reduceSub, Nat.reduceMul, Nat.reduceLeDiff, Nat.reduceLT, Int.reduceLT, Int.reduceLE, Int.reduceEq, Int.reduceToNat, reduceCtorEq, FB, FT, hi, h, wrap_succ, getRow _ _ h, fillR_get h, fillR_length (Nat.le_of_lt h), cx_laws_toStringS]
    simp only [splice_eq, EG, EL, ↓reduceIte, Nat.reduceEqDiff, Nat.reduceAdd, Nat.reduceSub, Nat.reduceMul, Nat.reduceLeDiff, Nat.reduceLT, Int.reduceLT, Int.reduceLE, Int.reduceEq, Int.reduceToNat, reduceCtorEq, hf]
    exact ih () trivial
theorem sem_laws_toStringS (xs : List ByteArray) (h : xs.length + tot wtS xs ≤ 1048576) : S_laws_toStringS.sem [.tree 1 (xs.map cS)] = some (.tree 1 (xs.map cS), []) := by
  rw [sg_laws_toStringS, sem_go]
  simp (maxSteps := 10000000) (disch := omega) only [F_laws_toStringS, params, EG, EL, ↓reduceIte, Nat.reduceEqDiff, Nat.reduceAdd, Nat.reduceSub, Nat.reduceMul, Nat.reduceLeDiff, Nat.reduceLT, Int.reduceLT, Int.reduceLE, Int.reduceEq, Int.reduceToNat, reduceCtorEq, FB, FT, cx_laws_toStringS, fillR_zero cS, loop_laws_toStringS xs h]
  rw [if_pos (by omega)]
theorem sem_laws_toEntry (x : DEntry) (h : wtEntry x ≤ 1048576) : S_laws_toEntry.sem [.agg (cEntry x)] = some (.agg (cEntry x), []) := by
  unfold wtEntry at h
  rw [sg_laws_toEntry, sem_go]
  simp (maxSteps := 10000000) (disch := omega) only [F_laws_toEntry, params, EG, EL, ↓reduceIte, Nat.reduceEqDiff, Nat.reduceAdd, Nat.reduceSub, Nat.reduceMul, Nat.reduceLeDiff, Nat.reduceLT, Int.reduceLT, Int.reduceLE, Int.reduceEq, Int.reduceToNat, reduceCtorEq, FB, FT, cx_laws_toEntry]
theorem loop_laws_toEntryS (xs : List DEntry) (hl : xs.length + tot wtEntry xs ≤ 1048576) :
    loopV X_laws_toEntryS 0 [0, 3, 4] [(1, [3])] B0_laws_toEntryS ⟨[(0, .tree 3 (xs.map cEntry)), (3, .sl ⟨0, none, 0⟩ 3 0 xs.length), (4, .int .i64 0)], [some ⟨false, 0, 3, fillR cEntry [.str ⟨#[]⟩, .str ⟨#[]⟩, .int .i64 0] xs 0⟩]⟩ = some (.exit 0, ⟨[(3, .sl ⟨0, none, 0⟩ 3 0 xs.length)], [some ⟨false, 0, 3, xs.map cEntry⟩]⟩) := by
  refine loop_list xs (fun _ (_ : Unit) => True) (fun i _ => ⟨[(0, .tree 3 (xs.map cEntry)), (3, .sl ⟨0, none, 0⟩ 3 0 xs.length), (4, .int .i64 ((i : Nat) : Int))], [some ⟨false, 0, 3, fillR cEntry [.str ⟨#[]⟩, .str ⟨#[]⟩, .int .i64 0] xs i⟩]⟩) (fun _ _ => some (.exit 0, ⟨[(3, .sl ⟨0, none, 0⟩ 3 0 xs.length)], [some ⟨false, 0, 3, xs.map cEntry⟩]⟩)) ?_ ?_ () trivial
  · intro _ _
    rw [loopV_by B0_laws_toEntryS.eq_1]
    simp only [EG, EL, ↓reduceIte, Nat.reduceEqDiff, Nat.reduceAdd, Nat.reduceSub, Nat.reduceMul, Nat.reduceLeDiff, Nat.reduceLT, Int.reduceLT, Int.reduceLE, Int.reduceEq, Int.reduceToNat, reduceCtorEq, int_lt_irrefl, fillR_end]
  · rintro i h x rest _ rfl rfl _ ih
    have hi : (i : Int) < (xs.length : Int) := by omega
    have hx : wtEntry xs[i] ≤ 1048576 := by have := le_tot wtEntry (List.getElem_mem h); omega
    have hf := fillR_set (c := cEntry) (z := [.str ⟨#[]⟩, .str ⟨#[]⟩, .int .i64 0]) h rfl
    simp only [cEntry] at hf
    rw [loopV_by B0_laws_toEntryS.eq_1]
    simp (maxSteps := 10000000) (disch := first | assumption | omega) only [EG, EL, ↓reduceIte, Nat.reduceEqDiff, Nat.reduceAdd, Nat.reduceSub, Nat.reduceMul, Nat.reduceLeDiff, Nat.reduceLT, Int.reduceLT, Int.reduceLE, Int.reduceEq, Int.reduceToNat, reduceCtorEq, FB, FT, hi, h, wrap_succ, getRow _ _ h, fillR_get h, fillR_length (Nat.le_of_lt h), cx_laws_toEntryS, cl_laws_toEntry, sem_laws_toEntry]
    simp only [splice_eq, EG, EL, ↓reduceIte, Nat.reduceEqDiff, Nat.reduceAdd, Nat.reduceSub, Nat.reduceMul, Nat.reduceLeDiff, Nat.reduceLT, Int.reduceLT, Int.reduceLE, Int.reduceEq, Int.reduceToNat, reduceCtorEq, hf]
    exact ih () trivial
theorem sem_laws_toEntryS (xs : List DEntry) (h : xs.length + tot wtEntry xs ≤ 1048576) : S_laws_toEntryS.sem [.tree 3 (xs.map cEntry)] = some (.tree 3 (xs.map cEntry), []) := by
  rw [sg_laws_toEntryS, sem_go]
  simp (maxSteps := 10000000) (disch := omega) only [F_laws_toEntryS, params, EG, EL, ↓reduceIte, Nat.reduceEqDiff, Nat.reduceAdd, Nat.reduceSub, Nat.reduceMul, Nat.reduceLeDiff, Nat.reduceLT, Int.reduceLT, Int.reduceLE, Int.reduceEq, Int.reduceToNat, reduceCtorEq, FB, FT, cx_laws_toEntryS, cl_laws_toEntry, sem_laws_toEntry, fillR_zero cEntry, loop_laws_toEntryS xs h]
  rw [if_pos (by omega)]
theorem sem_laws_toMonitor (x : DMonitor) (h : wtMonitor x ≤ 1048576) : S_laws_toMonitor.sem [.agg (cMonitor x)] = some (.agg (cMonitor x), []) := by
  unfold wtMonitor at h
  rw [sg_laws_toMonitor, sem_go]
  simp (maxSteps := 10000000) (disch := omega) only [F_laws_toMonitor, params, EG, EL, ↓reduceIte, Nat.reduceEqDiff, Nat.reduceAdd, Nat.reduceSub, Nat.reduceMul, Nat.reduceLeDiff, Nat.reduceLT, Int.reduceLT, Int.reduceLE, Int.reduceEq, Int.reduceToNat, reduceCtorEq, FB, FT, cx_laws_toMonitor, cl_laws_toStringS, sem_laws_toStringS, cl_laws_toEntryS, sem_laws_toEntryS]
theorem loop_laws_toMonitorS (xs : List DMonitor) (hl : xs.length + tot wtMonitor xs ≤ 1048576) :
    loopV X_laws_toMonitorS 0 [0, 3, 4] [(1, [3])] B0_laws_toMonitorS ⟨[(0, .tree 4 (xs.map cMonitor)), (3, .sl ⟨0, none, 0⟩ 4 0 xs.length), (4, .int .i64 0)], [some ⟨false, 0, 4, fillR cMonitor [.str ⟨#[]⟩, .tree 1 [], .tree 1 [], .tree 3 []] xs 0⟩]⟩ = some (.exit 0, ⟨[(3, .sl ⟨0, none, 0⟩ 4 0 xs.length)], [some ⟨false, 0, 4, xs.map cMonitor⟩]⟩) := by
  refine loop_list xs (fun _ (_ : Unit) => True) (fun i _ => ⟨[(0, .tree 4 (xs.map cMonitor)), (3, .sl ⟨0, none, 0⟩ 4 0 xs.length), (4, .int .i64 ((i : Nat) : Int))], [some ⟨false, 0, 4, fillR cMonitor [.str ⟨#[]⟩, .tree 1 [], .tree 1 [], .tree 3 []] xs i⟩]⟩) (fun _ _ => some (.exit 0, ⟨[(3, .sl ⟨0, none, 0⟩ 4 0 xs.length)], [some ⟨false, 0, 4, xs.map cMonitor⟩]⟩)) ?_ ?_ () trivial
  · intro _ _
    rw [loopV_by B0_laws_toMonitorS.eq_1]
    simp only [EG, EL, ↓reduceIte, Nat.reduceEqDiff, Nat.reduceAdd, Nat.reduceSub, Nat.reduceMul, Nat.reduceLeDiff, Nat.reduceLT, Int.reduceLT, Int.reduceLE, Int.reduceEq, Int.reduceToNat, reduceCtorEq, int_lt_irrefl, fillR_end]
  · rintro i h x rest _ rfl rfl _ ih
    have hi : (i : Int) < (xs.length : Int) := by omega
    have hx : wtMonitor xs[i] ≤ 1048576 := by have := le_tot wtMonitor (List.getElem_mem h); omega
    have hf := fillR_set (c := cMonitor) (z := [.str ⟨#[]⟩, .tree 1 [], .tree 1 [], .tree 3 []]) h rfl
    simp only [cMonitor] at hf
    rw [loopV_by B0_laws_toMonitorS.eq_1]
    simp (maxSteps := 10000000) (disch := first | assumption | omega) only [EG, EL, ↓reduceIte, Nat.reduceEqDiff, Nat.reduceAdd, Nat.reduceSub, Nat.reduceMul, Nat.reduceLeDiff, Nat.reduceLT, Int.reduceLT, Int.reduceLE, Int.reduceEq, Int.reduceToNat, reduceCtorEq, FB, FT, hi, h, wrap_succ, getRow _ _ h, fillR_get h, fillR_length (Nat.le_of_lt h), cx_laws_toMonitorS, cl_laws_toMonitor, sem_laws_toMonitor]
    simp only [splice_eq, EG, EL, ↓reduceIte, Nat.reduceEqDiff, Nat.reduceAdd, Nat.reduceSub, Nat.reduceMul, Nat.reduceLeDiff, Nat.reduceLT, Int.reduceLT, Int.reduceLE, Int.reduceEq, Int.reduceToNat, reduceCtorEq, hf]
    exact ih () trivial
theorem sem_laws_toMonitorS (xs : List DMonitor) (h : xs.length + tot wtMonitor xs ≤ 1048576) : S_laws_toMonitorS.sem [.tree 4 (xs.map cMonitor)] = some (.tree 4 (xs.map cMonitor), []) := by
  rw [sg_laws_toMonitorS, sem_go]
  simp (maxSteps := 10000000) (disch := omega) only [F_laws_toMonitorS, params, EG, EL, ↓reduceIte, Nat.reduceEqDiff, Nat.reduceAdd, Nat.reduceSub, Nat.reduceMul, Nat.reduceLeDiff, Nat.reduceLT, Int.reduceLT, Int.reduceLE, Int.reduceEq, Int.reduceToNat, reduceCtorEq, FB, FT, cx_laws_toMonitorS, cl_laws_toMonitor, sem_laws_toMonitor, fillR_zero cMonitor, loop_laws_toMonitorS xs h]
  rw [if_pos (by omega)]
theorem sem_laws_toProcess (x : DProcess) (h : wtProcess x ≤ 1048576) : S_laws_toProcess.sem [.agg (cProcess x)] = some (.agg (cProcess x), []) := by
  unfold wtProcess at h
  rw [sg_laws_toProcess, sem_go]
  simp (maxSteps := 10000000) (disch := omega) only [F_laws_toProcess, params, EG, EL, ↓reduceIte, Nat.reduceEqDiff, Nat.reduceAdd, Nat.reduceSub, Nat.reduceMul, Nat.reduceLeDiff, Nat.reduceLT, Int.reduceLT, Int.reduceLE, Int.reduceEq, Int.reduceToNat, reduceCtorEq, FB, FT, cx_laws_toProcess, cl_laws_toStringS, sem_laws_toStringS]
theorem loop_laws_toProcessS (xs : List DProcess) (hl : xs.length + tot wtProcess xs ≤ 1048576) :
    loopV X_laws_toProcessS 0 [0, 3, 4] [(1, [3])] B0_laws_toProcessS ⟨[(0, .tree 4 (xs.map cProcess)), (3, .sl ⟨0, none, 0⟩ 4 0 xs.length), (4, .int .i64 0)], [some ⟨false, 0, 4, fillR cProcess [.str ⟨#[]⟩, .tree 1 [], .tree 1 [], .int .i64 0] xs 0⟩]⟩ = some (.exit 0, ⟨[(3, .sl ⟨0, none, 0⟩ 4 0 xs.length)], [some ⟨false, 0, 4, xs.map cProcess⟩]⟩) := by
  refine loop_list xs (fun _ (_ : Unit) => True) (fun i _ => ⟨[(0, .tree 4 (xs.map cProcess)), (3, .sl ⟨0, none, 0⟩ 4 0 xs.length), (4, .int .i64 ((i : Nat) : Int))], [some ⟨false, 0, 4, fillR cProcess [.str ⟨#[]⟩, .tree 1 [], .tree 1 [], .int .i64 0] xs i⟩]⟩) (fun _ _ => some (.exit 0, ⟨[(3, .sl ⟨0, none, 0⟩ 4 0 xs.length)], [some ⟨false, 0, 4, xs.map cProcess⟩]⟩)) ?_ ?_ () trivial
  · intro _ _
    rw [loopV_by B0_laws_toProcessS.eq_1]
    simp only [EG, EL, ↓reduceIte, Nat.reduceEqDiff, Nat.reduceAdd, Nat.reduceSub, Nat.reduceMul, Nat.reduceLeDiff, Nat.reduceLT, Int.reduceLT, Int.reduceLE, Int.reduceEq, Int.reduceToNat, reduceCtorEq, int_lt_irrefl, fillR_end]
  · rintro i h x rest _ rfl rfl _ ih
    have hi : (i : Int) < (xs.length : Int) := by omega
    have hx : wtProcess xs[i] ≤ 1048576 := by have := le_tot wtProcess (List.getElem_mem h); omega
    have hf := fillR_set (c := cProcess) (z := [.str ⟨#[]⟩, .tree 1 [], .tree 1 [], .int .i64 0]) h rfl
    simp only [cProcess] at hf
    rw [loopV_by B0_laws_toProcessS.eq_1]
    simp (maxSteps := 10000000) (disch := first | assumption | omega) only [EG, EL, ↓reduceIte, Nat.reduceEqDiff, Nat.reduceAdd, Nat.reduceSub, Nat.reduceMul, Nat.reduceLeDiff, Nat.reduceLT, Int.reduceLT, Int.reduceLE, Int.reduceEq, Int.reduceToNat, reduceCtorEq, FB, FT, hi, h, wrap_succ, getRow _ _ h, fillR_get h, fillR_length (Nat.le_of_lt h), cx_laws_toProcessS, cl_laws_toProcess, sem_laws_toProcess]
    simp only [splice_eq, EG, EL, ↓reduceIte, Nat.reduceEqDiff, Nat.reduceAdd, Nat.reduceSub, Nat.reduceMul, Nat.reduceLeDiff, Nat.reduceLT, Int.reduceLT, Int.reduceLE, Int.reduceEq, Int.reduceToNat, reduceCtorEq, hf]
    exact ih () trivial
theorem sem_laws_toProcessS (xs : List DProcess) (h : xs.length + tot wtProcess xs ≤ 1048576) : S_laws_toProcessS.sem [.tree 4 (xs.map cProcess)] = some (.tree 4 (xs.map cProcess), []) := by
  rw [sg_laws_toProcessS, sem_go]
  simp (maxSteps := 10000000) (disch := omega) only [F_laws_toProcessS, params, EG, EL, ↓reduceIte, Nat.reduceEqDiff, Nat.reduceAdd, Nat.reduceSub, Nat.reduceMul, Nat.reduceLeDiff, Nat.reduceLT, Int.reduceLT, Int.reduceLE, Int.reduceEq, Int.reduceToNat, reduceCtorEq, FB, FT, cx_laws_toProcessS, cl_laws_toProcess, sem_laws_toProcess, fillR_zero cProcess, loop_laws_toProcessS xs h]
  rw [if_pos (by omega)]
theorem sem_laws_toProgram (x : DProgram) (h : wtProgram x ≤ 1048576) : S_laws_toProgram.sem [.agg (cProgram x)] = some (.agg (cProgram x), []) := by
  unfold wtProgram at h
  rw [sg_laws_toProgram, sem_go]
  simp (maxSteps := 10000000) (disch := omega) only [F_laws_toProgram, params, EG, EL, ↓reduceIte, Nat.reduceEqDiff, Nat.reduceAdd, Nat.reduceSub, Nat.reduceMul, Nat.reduceLeDiff, Nat.reduceLT, Int.reduceLT, Int.reduceLE, Int.reduceEq, Int.reduceToNat, reduceCtorEq, FB, FT, cx_laws_toProgram, cl_laws_toNodeS, sem_laws_toNodeS, cl_laws_toMonitorS, sem_laws_toMonitorS, cl_laws_toProcessS, sem_laws_toProcessS]
theorem loop_laws_eqIntS (xs : List Int) (hl : xs.length ≤ 1073741824) :
    loopV X_laws_eqIntS 0 [0, 1, 5] [(1, []), (0, [4])] B0_laws_eqIntS ⟨[(0, .tree 1 (xs.map cI)), (1, .tree 1 (xs.map cI)), (5, .int .i64 0)], []⟩ = some (.exit 0, ⟨[], []⟩) := by
  refine loop_list xs (fun _ (_ : Unit) => True) (fun i _ => ⟨[(0, .tree 1 (xs.map cI)), (1, .tree 1 (xs.map cI)), (5, .int .i64 ((i : Nat) : Int))], []⟩) (fun _ _ => some (.exit 0, ⟨[], []⟩)) ?_ ?_ () trivial
  · intro _ _
    rw [loopV_by B0_laws_eqIntS.eq_1]
    simp only [EG, EL, ↓reduceIte, Nat.reduceEqDiff, Nat.reduceAdd, Nat.reduceSub, Nat.reduceMul, Nat.reduceLeDiff, Nat.reduceLT, Int.reduceLT, Int.reduceLE, Int.reduceEq, Int.reduceToNat, reduceCtorEq, int_lt_irrefl]
  · rintro i h x rest _ rfl rfl _ ih
    have hi : (i : Int) < (xs.length : Int) := by omega
    skip
    rw [loopV_by B0_laws_eqIntS.eq_1]
    simp (maxSteps := 10000000) (disch := first | assumption | omega) only [EG, EL, ↓reduceIte, Nat.reduceEqDiff, Nat.reduceAdd, Nat.reduceSub, Nat.reduceMul, Nat.reduceLeDiff, Nat.reduceLT, Int.reduceLT, Int.reduceLE, Int.reduceEq, Int.reduceToNat, reduceCtorEq, FB, FT, hi, wrap_succ, getRow _ _ h, cx_laws_eqIntS]
    exact ih () trivial
theorem sem_laws_eqIntS (xs : List Int) (h : xs.length ≤ 1073741824) : S_laws_eqIntS.sem [.tree 1 (xs.map cI), .tree 1 (xs.map cI)] = some (.bool true, []) := by
  rw [sg_laws_eqIntS, sem_go]
  simp (maxSteps := 10000000) (disch := omega) only [F_laws_eqIntS, params, EG, EL, ↓reduceIte, Nat.reduceEqDiff, Nat.reduceAdd, Nat.reduceSub, Nat.reduceMul, Nat.reduceLeDiff, Nat.reduceLT, Int.reduceLT, Int.reduceLE, Int.reduceEq, Int.reduceToNat, reduceCtorEq, FB, FT, cx_laws_eqIntS, loop_laws_eqIntS xs h]
theorem sem_laws_eqNode (x : DNode) (h : wtNode x ≤ 1073741824) : S_laws_eqNode.sem [.agg (cNode x), .agg (cNode x)] = some (.bool true, []) := by
  unfold wtNode at h
  rw [sg_laws_eqNode, sem_go]
  simp (maxSteps := 10000000) (disch := omega) only [F_laws_eqNode, params, EG, EL, ↓reduceIte, Nat.reduceEqDiff, Nat.reduceAdd, Nat.reduceSub, Nat.reduceMul, Nat.reduceLeDiff, Nat.reduceLT, Int.reduceLT, Int.reduceLE, Int.reduceEq, Int.reduceToNat, reduceCtorEq, FB, FT, cx_laws_eqNode, cl_laws_eqIntS, sem_laws_eqIntS]
theorem loop_laws_eqNodeS (xs : List DNode) (hl : xs.length + tot wtNode xs ≤ 1073741824) :
    loopV X_laws_eqNodeS 0 [0, 1, 5] [(1, []), (0, [4])] B0_laws_eqNodeS ⟨[(0, .tree 6 (xs.map cNode)), (1, .tree 6 (xs.map cNode)), (5, .int .i64 0)], []⟩ = some (.exit 0, ⟨[], []⟩) := by
  refine loop_list xs (fun _ (_ : Unit) => True) (fun i _ => ⟨[(0, .tree 6 (xs.map cNode)), (1, .tree 6 (xs.map cNode)), (5, .int .i64 ((i : Nat) : Int))], []⟩) (fun _ _ => some (.exit 0, ⟨[], []⟩)) ?_ ?_ () trivial
  · intro _ _
    rw [loopV_by B0_laws_eqNodeS.eq_1]
    simp only [EG, EL, ↓reduceIte, Nat.reduceEqDiff, Nat.reduceAdd, Nat.reduceSub, Nat.reduceMul, Nat.reduceLeDiff, Nat.reduceLT, Int.reduceLT, Int.reduceLE, Int.reduceEq, Int.reduceToNat, reduceCtorEq, int_lt_irrefl]
  · rintro i h x rest _ rfl rfl _ ih
    have hi : (i : Int) < (xs.length : Int) := by omega
    have hx : wtNode xs[i] ≤ 1073741824 := by have := le_tot wtNode (List.getElem_mem h); omega
    rw [loopV_by B0_laws_eqNodeS.eq_1]
    simp (maxSteps := 10000000) (disch := first | assumption | omega) only [EG, EL, ↓reduceIte, Nat.reduceEqDiff, Nat.reduceAdd, Nat.reduceSub, Nat.reduceMul, Nat.reduceLeDiff, Nat.reduceLT, Int.reduceLT, Int.reduceLE, Int.reduceEq, Int.reduceToNat, reduceCtorEq, FB, FT, hi, wrap_succ, getRow _ _ h, cx_laws_eqNodeS, cl_laws_eqNode, sem_laws_eqNode]
    exact ih () trivial
theorem sem_laws_eqNodeS (xs : List DNode) (h : xs.length + tot wtNode xs ≤ 1073741824) : S_laws_eqNodeS.sem [.tree 6 (xs.map cNode), .tree 6 (xs.map cNode)] = some (.bool true, []) := by
  rw [sg_laws_eqNodeS, sem_go]
  simp (maxSteps := 10000000) (disch := omega) only [F_laws_eqNodeS, params, EG, EL, ↓reduceIte, Nat.reduceEqDiff, Nat.reduceAdd, Nat.reduceSub, Nat.reduceMul, Nat.reduceLeDiff, Nat.reduceLT, Int.reduceLT, Int.reduceLE, Int.reduceEq, Int.reduceToNat, reduceCtorEq, FB, FT, cx_laws_eqNodeS, cl_laws_eqNode, sem_laws_eqNode, loop_laws_eqNodeS xs h]
theorem loop_laws_eqStringS (xs : List ByteArray) (hl : xs.length + tot wtS xs ≤ 1073741824) :
    loopV X_laws_eqStringS 0 [0, 1, 5] [(1, []), (0, [4])] B0_laws_eqStringS ⟨[(0, .tree 1 (xs.map cS)), (1, .tree 1 (xs.map cS)), (5, .int .i64 0)], []⟩ = some (.exit 0, ⟨[], []⟩) := by
  refine loop_list xs (fun _ (_ : Unit) => True) (fun i _ => ⟨[(0, .tree 1 (xs.map cS)), (1, .tree 1 (xs.map cS)), (5, .int .i64 ((i : Nat) : Int))], []⟩) (fun _ _ => some (.exit 0, ⟨[], []⟩)) ?_ ?_ () trivial
  · intro _ _
    rw [loopV_by B0_laws_eqStringS.eq_1]
    simp only [EG, EL, ↓reduceIte, Nat.reduceEqDiff, Nat.reduceAdd, Nat.reduceSub, Nat.reduceMul, Nat.reduceLeDiff, Nat.reduceLT, Int.reduceLT, Int.reduceLE, Int.reduceEq, Int.reduceToNat, reduceCtorEq, int_lt_irrefl]
  · rintro i h x rest _ rfl rfl _ ih
    have hi : (i : Int) < (xs.length : Int) := by omega
    skip
    rw [loopV_by B0_laws_eqStringS.eq_1]
    simp (maxSteps := 10000000) (disch := first | assumption | omega) only [EG, EL, ↓reduceIte, Nat.reduceEqDiff, Nat.reduceAdd, Nat.reduceSub, Nat.reduceMul, Nat.reduceLeDiff, Nat.reduceLT, Int.reduceLT, Int.reduceLE, Int.reduceEq, Int.reduceToNat, reduceCtorEq, FB, FT, hi, wrap_succ, getRow _ _ h, cx_laws_eqStringS]
    exact ih () trivial
theorem sem_laws_eqStringS (xs : List ByteArray) (h : xs.length + tot wtS xs ≤ 1073741824) : S_laws_eqStringS.sem [.tree 1 (xs.map cS), .tree 1 (xs.map cS)] = some (.bool true, []) := by
  rw [sg_laws_eqStringS, sem_go]
  simp (maxSteps := 10000000) (disch := omega) only [F_laws_eqStringS, params, EG, EL, ↓reduceIte, Nat.reduceEqDiff, Nat.reduceAdd, Nat.reduceSub, Nat.reduceMul, Nat.reduceLeDiff, Nat.reduceLT, Int.reduceLT, Int.reduceLE, Int.reduceEq, Int.reduceToNat, reduceCtorEq, FB, FT, cx_laws_eqStringS, loop_laws_eqStringS xs h]
theorem sem_laws_eqEntry (x : DEntry) (h : wtEntry x ≤ 1073741824) : S_laws_eqEntry.sem [.agg (cEntry x), .agg (cEntry x)] = some (.bool true, []) := by
  unfold wtEntry at h
  rw [sg_laws_eqEntry, sem_go]
  simp (maxSteps := 10000000) (disch := omega) only [F_laws_eqEntry, params, EG, EL, ↓reduceIte, Nat.reduceEqDiff, Nat.reduceAdd, Nat.reduceSub, Nat.reduceMul, Nat.reduceLeDiff, Nat.reduceLT, Int.reduceLT, Int.reduceLE, Int.reduceEq, Int.reduceToNat, reduceCtorEq, FB, FT, cx_laws_eqEntry]
theorem loop_laws_eqEntryS (xs : List DEntry) (hl : xs.length + tot wtEntry xs ≤ 1073741824) :
    loopV X_laws_eqEntryS 0 [0, 1, 5] [(1, []), (0, [4])] B0_laws_eqEntryS ⟨[(0, .tree 3 (xs.map cEntry)), (1, .tree 3 (xs.map cEntry)), (5, .int .i64 0)], []⟩ = some (.exit 0, ⟨[], []⟩) := by
  refine loop_list xs (fun _ (_ : Unit) => True) (fun i _ => ⟨[(0, .tree 3 (xs.map cEntry)), (1, .tree 3 (xs.map cEntry)), (5, .int .i64 ((i : Nat) : Int))], []⟩) (fun _ _ => some (.exit 0, ⟨[], []⟩)) ?_ ?_ () trivial
  · intro _ _
    rw [loopV_by B0_laws_eqEntryS.eq_1]
    simp only [EG, EL, ↓reduceIte, Nat.reduceEqDiff, Nat.reduceAdd, Nat.reduceSub, Nat.reduceMul, Nat.reduceLeDiff, Nat.reduceLT, Int.reduceLT, Int.reduceLE, Int.reduceEq, Int.reduceToNat, reduceCtorEq, int_lt_irrefl]
  · rintro i h x rest _ rfl rfl _ ih
    have hi : (i : Int) < (xs.length : Int) := by omega
    have hx : wtEntry xs[i] ≤ 1073741824 := by have := le_tot wtEntry (List.getElem_mem h); omega
    rw [loopV_by B0_laws_eqEntryS.eq_1]
    simp (maxSteps := 10000000) (disch := first | assumption | omega) only [EG, EL, ↓reduceIte, Nat.reduceEqDiff, Nat.reduceAdd, Nat.reduceSub, Nat.reduceMul, Nat.reduceLeDiff, Nat.reduceLT, Int.reduceLT, Int.reduceLE, Int.reduceEq, Int.reduceToNat, reduceCtorEq, FB, FT, hi, wrap_succ, getRow _ _ h, cx_laws_eqEntryS, cl_laws_eqEntry, sem_laws_eqEntry]
    exact ih () trivial
theorem sem_laws_eqEntryS (xs : List DEntry) (h : xs.length + tot wtEntry xs ≤ 1073741824) : S_laws_eqEntryS.sem [.tree 3 (xs.map cEntry), .tree 3 (xs.map cEntry)] = some (.bool true, []) := by
  rw [sg_laws_eqEntryS, sem_go]
  simp (maxSteps := 10000000) (disch := omega) only [F_laws_eqEntryS, params, EG, EL, ↓reduceIte, Nat.reduceEqDiff, Nat.reduceAdd, Nat.reduceSub, Nat.reduceMul, Nat.reduceLeDiff, Nat.reduceLT, Int.reduceLT, Int.reduceLE, Int.reduceEq, Int.reduceToNat, reduceCtorEq, FB, FT, cx_laws_eqEntryS, cl_laws_eqEntry, sem_laws_eqEntry, loop_laws_eqEntryS xs h]
theorem sem_laws_eqMonitor (x : DMonitor) (h : wtMonitor x ≤ 1073741824) : S_laws_eqMonitor.sem [.agg (cMonitor x), .agg (cMonitor x)] = some (.bool true, []) := by
  unfold wtMonitor at h
  rw [sg_laws_eqMonitor, sem_go]
  simp (maxSteps := 10000000) (disch := omega) only [F_laws_eqMonitor, params, EG, EL, ↓reduceIte, Nat.reduceEqDiff, Nat.reduceAdd, Nat.reduceSub, Nat.reduceMul, Nat.reduceLeDiff, Nat.reduceLT, Int.reduceLT, Int.reduceLE, Int.reduceEq, Int.reduceToNat, reduceCtorEq, FB, FT, cx_laws_eqMonitor, cl_laws_eqStringS, sem_laws_eqStringS, cl_laws_eqEntryS, sem_laws_eqEntryS]
theorem loop_laws_eqMonitorS (xs : List DMonitor) (hl : xs.length + tot wtMonitor xs ≤ 1073741824) :
    loopV X_laws_eqMonitorS 0 [0, 1, 5] [(1, []), (0, [4])] B0_laws_eqMonitorS ⟨[(0, .tree 4 (xs.map cMonitor)), (1, .tree 4 (xs.map cMonitor)), (5, .int .i64 0)], []⟩ = some (.exit 0, ⟨[], []⟩) := by
  refine loop_list xs (fun _ (_ : Unit) => True) (fun i _ => ⟨[(0, .tree 4 (xs.map cMonitor)), (1, .tree 4 (xs.map cMonitor)), (5, .int .i64 ((i : Nat) : Int))], []⟩) (fun _ _ => some (.exit 0, ⟨[], []⟩)) ?_ ?_ () trivial
  · intro _ _
    rw [loopV_by B0_laws_eqMonitorS.eq_1]
    simp only [EG, EL, ↓reduceIte, Nat.reduceEqDiff, Nat.reduceAdd, Nat.reduceSub, Nat.reduceMul, Nat.reduceLeDiff, Nat.reduceLT, Int.reduceLT, Int.reduceLE, Int.reduceEq, Int.reduceToNat, reduceCtorEq, int_lt_irrefl]
  · rintro i h x rest _ rfl rfl _ ih
    have hi : (i : Int) < (xs.length : Int) := by omega
    have hx : wtMonitor xs[i] ≤ 1073741824 := by have := le_tot wtMonitor (List.getElem_mem h); omega
    rw [loopV_by B0_laws_eqMonitorS.eq_1]
    simp (maxSteps := 10000000) (disch := first | assumption | omega) only [EG, EL, ↓reduceIte, Nat.reduceEqDiff, Nat.reduceAdd, Nat.reduceSub, Nat.reduceMul, Nat.reduceLeDiff, Nat.reduceLT, Int.reduceLT, Int.reduceLE, Int.reduceEq, Int.reduceToNat, reduceCtorEq, FB, FT, hi, wrap_succ, getRow _ _ h, cx_laws_eqMonitorS, cl_laws_eqMonitor, sem_laws_eqMonitor]
    exact ih () trivial
theorem sem_laws_eqMonitorS (xs : List DMonitor) (h : xs.length + tot wtMonitor xs ≤ 1073741824) : S_laws_eqMonitorS.sem [.tree 4 (xs.map cMonitor), .tree 4 (xs.map cMonitor)] = some (.bool true, []) := by
  rw [sg_laws_eqMonitorS, sem_go]
  simp (maxSteps := 10000000) (disch := omega) only [F_laws_eqMonitorS, params, EG, EL, ↓reduceIte, Nat.reduceEqDiff, Nat.reduceAdd, Nat.reduceSub, Nat.reduceMul, Nat.reduceLeDiff, Nat.reduceLT, Int.reduceLT, Int.reduceLE, Int.reduceEq, Int.reduceToNat, reduceCtorEq, FB, FT, cx_laws_eqMonitorS, cl_laws_eqMonitor, sem_laws_eqMonitor, loop_laws_eqMonitorS xs h]
theorem sem_laws_eqProcess (x : DProcess) (h : wtProcess x ≤ 1073741824) : S_laws_eqProcess.sem [.agg (cProcess x), .agg (cProcess x)] = some (.bool true, []) := by
  unfold wtProcess at h
  rw [sg_laws_eqProcess, sem_go]
  simp (maxSteps := 10000000) (disch := omega) only [F_laws_eqProcess, params, EG, EL, ↓reduceIte, Nat.reduceEqDiff, Nat.reduceAdd, Nat.reduceSub, Nat.reduceMul, Nat.reduceLeDiff, Nat.reduceLT, Int.reduceLT, Int.reduceLE, Int.reduceEq, Int.reduceToNat, reduceCtorEq, FB, FT, cx_laws_eqProcess, cl_laws_eqStringS, sem_laws_eqStringS]
theorem loop_laws_eqProcessS (xs : List DProcess) (hl : xs.length + tot wtProcess xs ≤ 1073741824) :
    loopV X_laws_eqProcessS 0 [0, 1, 5] [(1, []), (0, [4])] B0_laws_eqProcessS ⟨[(0, .tree 4 (xs.map cProcess)), (1, .tree 4 (xs.map cProcess)), (5, .int .i64 0)], []⟩ = some (.exit 0, ⟨[], []⟩) := by
  refine loop_list xs (fun _ (_ : Unit) => True) (fun i _ => ⟨[(0, .tree 4 (xs.map cProcess)), (1, .tree 4 (xs.map cProcess)), (5, .int .i64 ((i : Nat) : Int))], []⟩) (fun _ _ => some (.exit 0, ⟨[], []⟩)) ?_ ?_ () trivial
  · intro _ _
    rw [loopV_by B0_laws_eqProcessS.eq_1]
    simp only [EG, EL, ↓reduceIte, Nat.reduceEqDiff, Nat.reduceAdd, Nat.reduceSub, Nat.reduceMul, Nat.reduceLeDiff, Nat.reduceLT, Int.reduceLT, Int.reduceLE, Int.reduceEq, Int.reduceToNat, reduceCtorEq, int_lt_irrefl]
  · rintro i h x rest _ rfl rfl _ ih
    have hi : (i : Int) < (xs.length : Int) := by omega
    have hx : wtProcess xs[i] ≤ 1073741824 := by have := le_tot wtProcess (List.getElem_mem h); omega
    rw [loopV_by B0_laws_eqProcessS.eq_1]
    simp (maxSteps := 10000000) (disch := first | assumption | omega) only [EG, EL, ↓reduceIte, Nat.reduceEqDiff, Nat.reduceAdd, Nat.reduceSub, Nat.reduceMul, Nat.reduceLeDiff, Nat.reduceLT, Int.reduceLT, Int.reduceLE, Int.reduceEq, Int.reduceToNat, reduceCtorEq, FB, FT, hi, wrap_succ, getRow _ _ h, cx_laws_eqProcessS, cl_laws_eqProcess, sem_laws_eqProcess]
    exact ih () trivial
theorem sem_laws_eqProcessS (xs : List DProcess) (h : xs.length + tot wtProcess xs ≤ 1073741824) : S_laws_eqProcessS.sem [.tree 4 (xs.map cProcess), .tree 4 (xs.map cProcess)] = some (.bool true, []) := by
  rw [sg_laws_eqProcessS, sem_go]
  simp (maxSteps := 10000000) (disch := omega) only [F_laws_eqProcessS, params, EG, EL, ↓reduceIte, Nat.reduceEqDiff, Nat.reduceAdd, Nat.reduceSub, Nat.reduceMul, Nat.reduceLeDiff, Nat.reduceLT, Int.reduceLT, Int.reduceLE, Int.reduceEq, Int.reduceToNat, reduceCtorEq, FB, FT, cx_laws_eqProcessS, cl_laws_eqProcess, sem_laws_eqProcess, loop_laws_eqProcessS xs h]
theorem sem_laws_eqProgram (x : DProgram) (h : wtProgram x ≤ 1073741824) : S_laws_eqProgram.sem [.agg (cProgram x), .agg (cProgram x)] = some (.bool true, []) := by
  unfold wtProgram at h
  rw [sg_laws_eqProgram, sem_go]
  simp (maxSteps := 10000000) (disch := omega) only [F_laws_eqProgram, params, EG, EL, ↓reduceIte, Nat.reduceEqDiff, Nat.reduceAdd, Nat.reduceSub, Nat.reduceMul, Nat.reduceLeDiff, Nat.reduceLT, Int.reduceLT, Int.reduceLE, Int.reduceEq, Int.reduceToNat, reduceCtorEq, FB, FT, cx_laws_eqProgram, cl_laws_eqNodeS, sem_laws_eqNodeS, cl_laws_eqMonitorS, sem_laws_eqMonitorS, cl_laws_eqProcessS, sem_laws_eqProcessS]
/-! gates -/
/-- In line, each in 0 .. 3 and none of those seen. -/
def freshB (seen : List Int) : List Int → Bool
  | [] => true
  | x :: xs => decide (0 ≤ x ∧ x ≤ 3) && (decide (x ∉ seen) && freshB (seen ++ [x]) xs)
def qfreshB (seen : List Int) : List Int → Bool
  | [] => true
  | x :: xs => if x = -1 then qfreshB (seen ++ [x]) xs else decide (0 ≤ x ∧ x ≤ 3) && (decide (x ∉ seen) && qfreshB (seen ++ [x]) xs)
def somebody (xs : List Int) : List Int := xs.filter (fun x => decide (x ≠ -1))
theorem freshB_app : ∀ (xs ys seen : List Int), freshB seen (xs ++ ys) = (freshB seen xs && freshB (seen ++ xs) ys)
  | [], ys, seen => by simp [freshB]
  | x :: xs, ys, seen => by
    simp only [List.cons_append, freshB, freshB_app xs ys (seen ++ [x]), List.append_assoc, List.singleton_append, List.nil_append, Bool.and_assoc]
theorem freshB_mem : ∀ (xs seen : List Int), freshB seen xs = true → ∀ x ∈ xs, 0 ≤ x ∧ x ≤ 3
  | [], _, _, x, hx => by simp at hx
  | y :: ys, seen, h, x, hx => by
    unfold freshB at h
    simp only [Bool.and_eq_true, decide_eq_true_eq] at h
    rcases List.mem_cons.1 hx with rfl | hx
    · exact h.1
    · exact freshB_mem ys _ h.2.2 x hx
theorem qfreshB_eq : ∀ (xs seen : List Int), qfreshB seen xs = freshB (somebody seen) (somebody xs)
  | [], seen => rfl
  | x :: xs, seen => by
    unfold qfreshB
    rw [qfreshB_eq xs (seen ++ [x])]
    by_cases h : x = -1
    · subst h
      simp [somebody]
    · have hm : x ∈ somebody seen ↔ x ∈ seen := by simp [somebody, h]
      rw [if_neg h]
      have e : somebody (x :: xs) = x :: somebody xs := by simp [somebody, h]
      rw [e]
      have e2 : somebody (seen ++ [x]) = somebody seen ++ [x] := by simp [somebody, h]
      rw [e2]
      conv => rhs; unfold freshB
      simp only [hm]
/-- A right gate. -/
def gateOk (owner : Int) (waits queues : List Int) : Bool :=
  decide (queues.length ≤ 2) && (freshB [] ((if owner = -1 then [] else [owner]) ++ waits ++ somebody queues) && decide (owner ≠ -1 ∨ waits.length = 0))
theorem gateOk_low {owner : Int} {waits queues : List Int} (h : ¬ (-1 ≤ owner ∧ owner ≤ 3)) : gateOk owner waits queues = false := by
  unfold gateOk
  rw [if_neg (by omega)]
  simp only [List.cons_append, List.nil_append]
  unfold freshB
  have : ¬ (0 ≤ owner ∧ owner ≤ 3) := by omega
  simp [this]
def inGate (owner : Int) (waits queues : List Int) : List Int := (if owner = -1 then [] else [owner]) ++ waits ++ somebody queues
theorem inGate_len (owner : Int) (waits queues : List Int) : (inGate owner waits queues).length ≤ 1 + waits.length + queues.length := by
  unfold inGate somebody
  have := List.length_filter_le (fun x : Int => decide (x ≠ -1)) queues
  rw [List.length_append, List.length_append]
  split <;> simp only [List.length_nil, List.length_cons] <;> omega
/-- How the reference tells a right gate. -/
theorem gateOk_spec (owner : Int) (waits queues : List Int) : gateOk owner waits queues = (decide (-1 ≤ owner ∧ owner ≤ 3) && (decide (queues.length ≤ 2) && (!(decide (owner < 0) && decide (0 < waits.length)) && (freshB (if 0 ≤ owner then [owner] else []) waits && qfreshB ((if 0 ≤ owner then [owner] else []) ++ waits) queues)))) := by
  by_cases h1 : -1 ≤ owner ∧ owner ≤ 3
  · by_cases h3 : owner < 0
    · have ho : owner = -1 := by omega
      subst ho
      by_cases h4 : waits = []
      · subst h4
        rw [qfreshB_eq]
        simp [gateOk, freshB, somebody]
      · have : ¬ waits.length = 0 := by simpa using h4
        simp [gateOk, h4, List.length_pos_iff]
    · have ho : ¬ owner = -1 := by omega
      have ho2 : 0 ≤ owner ∧ owner ≤ 3 := by omega
      rw [if_pos ho2.1, qfreshB_eq]
      unfold gateOk
      rw [if_neg ho, freshB_app ([owner] ++ waits), freshB_app [owner]]
      have e1 : freshB [] [owner] = true := by simp [freshB, ho2]
      rw [e1]
      simp only [h1, h3, and_self, decide_true, decide_false, Bool.true_and, List.nil_append, ho, not_false_eq_true, true_or, ne_eq, Bool.and_true, Bool.false_and, Bool.not_false]
      cases hf : freshB [owner] waits with
      | false => simp
      | true =>
        have hm := freshB_mem _ _ hf
        have e2 : somebody ([owner] ++ waits) = [owner] ++ waits := by
          unfold somebody
          rw [List.filter_eq_self]
          intro x hx
          rcases List.mem_append.1 hx with hx | hx
          · have := List.mem_singleton.1 hx
            exact decide_eq_true (by omega)
          · have := hm x hx
            exact decide_eq_true (by omega)
        rw [e2]
  · rw [gateOk_low h1]
    simp [h1]
theorem map_cI_snoc {xs : List Int} {y : Int} : xs.map cI ++ [[.int .i64 y]] = (xs ++ [y]).map cI := by simp
theorem map_cI_app {xs ys : List Int} : xs.map cI ++ ys.map cI = (xs ++ ys).map cI := by simp
theorem map_cI_one {y : Int} : [[AV.int .i64 y]] = [y].map cI := rfl
/-- A loop that goes on, or gives false. -/
def okR (b : Bool) (e : Nat) (s : St) (t : Nat) : Option (Ex × St) := if b = true then some (.exit e, s) else some (.ret, ⟨[(t, .bool false)], []⟩)
theorem okR_true {e t : Nat} {s : St} : okR true e s t = some (.exit e, s) := rfl
theorem okR_false {e t : Nat} {s : St} : okR false e s t = some (.ret, ⟨[(t, .bool false)], []⟩) := rfl
theorem goE_okR {ctx : Ctx} {base : Nat} {b : Bool} {e t : Nat} {s : St} {K : List Fr} : goE ctx base (okR b e s t) K = if b = true then unw ctx base K (.exit e) s else unw ctx base K .ret ⟨[(t, .bool false)], []⟩ := by
  unfold okR; split <;> rfl
theorem mem_fIx {xs : List Int} {x : Int} : ∀ {i : Nat}, (0 ≤ fIx (fun y => decide (x = y)) xs i) = (x ∈ xs) := by
  induction xs with
  | nil => intro i; simp [fIx]
  | cons y ys ih =>
    intro i
    by_cases h : x = y
    · subst h; simp [fIx]
    · simp only [fIx, h, decide_false, Bool.false_eq_true, if_false, ih, List.mem_cons, false_or]
theorem sem_spec_l01In (a lo hi : Int) : S_spec_l01In.sem [.int .i64 a, .int .i64 lo, .int .i64 hi] = some (.bool (decide (lo ≤ a ∧ a ≤ hi)), []) := by
  rw [sg_spec_l01In, sem_go]
  simp (maxSteps := 10000000) (disch := first | assumption | omega) only [F_spec_l01In, params, EG, EL, ↓reduceIte, Nat.reduceEqDiff, Nat.reduceAdd, Nat.reduceSub, Nat.reduceMul, Nat.reduceLeDiff, Nat.reduceLT, Int.reduceLT, Int.reduceLE, Int.reduceEq, Int.reduceToNat, reduceCtorEq, FB, cx_spec_l01In]
  by_cases h1 : lo ≤ a <;> by_cases h2 : a ≤ hi <;> simp [h1, h2]
theorem sem_impl_within (a lo hi : Int) : S_impl_within.sem [.int .i64 a, .int .i64 lo, .int .i64 hi] = some (.bool (decide (lo ≤ a ∧ a ≤ hi)), []) := by
  rw [sg_impl_within, sem_go]
  simp (maxSteps := 10000000) (disch := first | assumption | omega) only [F_impl_within, params, EG, EL, ↓reduceIte, Nat.reduceEqDiff, Nat.reduceAdd, Nat.reduceSub, Nat.reduceMul, Nat.reduceLeDiff, Nat.reduceLT, Int.reduceLT, Int.reduceLE, Int.reduceEq, Int.reduceToNat, reduceCtorEq, FB, cx_impl_within]
  by_cases h1 : lo ≤ a <;> by_cases h2 : a ≤ hi <;> simp [h1, h2]
theorem sem_slices_Index_int_int (xs : List Int) (x : Int) (hl : xs.length ≤ 140737488351232) : S_slices_Index_int_int.sem [.tree 1 (xs.map cI), .int .i64 x] = some (.int .i64 (fIx (fun y => decide (x = y)) xs 0), []) := by
  have loop : loopV X_slices_Index_int_int 0 [0, 1, 7, 8] [(1, []), (0, [4])] B0_slices_Index_int_int ⟨[(0, .tree 1 (xs.map cI)), (1, .int .i64 x), (7, .int .i64 xs.length), (8, .int .i64 0)], []⟩ = fixR 4 (fIx (fun y => decide (x = y)) xs 0) := by
    refine loop_list xs (fun i a => a = i) (fun i a => ⟨[(0, .tree 1 (xs.map cI)), (1, .int .i64 x), (7, .int .i64 xs.length), (8, .int .i64 (i : Int))], []⟩) (fun rest a => fixR 4 (fIx (fun y => decide (x = y)) rest a)) ?_ ?_ 0 rfl
    · rintro a rfl
      rw [loopV_by B0_slices_Index_int_int.eq_1]
      simp only [EG, EL, ↓reduceIte, Nat.reduceEqDiff, Nat.reduceAdd, Nat.reduceSub, Nat.reduceMul, Nat.reduceLeDiff, Nat.reduceLT, Int.reduceLT, Int.reduceLE, Int.reduceEq, Int.reduceToNat, reduceCtorEq, FB, int_lt_irrefl]
      exact fixR_nil
    · rintro i h y rest a rfl rfl rfl ih
      have hi : (a : Int) < (xs.length : Int) := by omega
      rw [loopV_by B0_slices_Index_int_int.eq_1]
      simp (maxSteps := 10000000) (disch := first | assumption | omega) only [EG, EL, ↓reduceIte, Nat.reduceEqDiff, Nat.reduceAdd, Nat.reduceSub, Nat.reduceMul, Nat.reduceLeDiff, Nat.reduceLT, Int.reduceLT, Int.reduceLE, Int.reduceEq, Int.reduceToNat, reduceCtorEq, FB, hi, wrap_succ, getRow _ _ h, ih _ rfl]
      by_cases h1 : x = xs[a] <;> simp only [h1, if_true, if_false]
      · exact fixR_yes (by simp)
      · exact fixR_no (by simp [h1])
  rw [sg_slices_Index_int_int, sem_go]
  simp (maxSteps := 10000000) (disch := first | assumption | omega) only [F_slices_Index_int_int, params, EG, EL, ↓reduceIte, Nat.reduceEqDiff, Nat.reduceAdd, Nat.reduceSub, Nat.reduceMul, Nat.reduceLeDiff, Nat.reduceLT, Int.reduceLT, Int.reduceLE, Int.reduceEq, Int.reduceToNat, reduceCtorEq, FB, loop, goE_fixR]
  rcases @fIx_ge _ (fun y => decide (x = y)) xs 0 with h | h
  · simp [h]
  · rw [if_neg (by omega)]
theorem sem_slices_Contains_int_int (xs : List Int) (x : Int) (hl : xs.length ≤ 140737488351232) : S_slices_Contains_int_int.sem [.tree 1 (xs.map cI), .int .i64 x] = some (.bool (decide (x ∈ xs)), []) := by
  rw [sg_slices_Contains_int_int, sem_go]
  simp (maxSteps := 10000000) (disch := first | assumption | omega) only [F_slices_Contains_int_int, params, EG, EL, ↓reduceIte, Nat.reduceEqDiff, Nat.reduceAdd, Nat.reduceSub, Nat.reduceMul, Nat.reduceLeDiff, Nat.reduceLT, Int.reduceLT, Int.reduceLE, Int.reduceEq, Int.reduceToNat, reduceCtorEq, FB, cx_slices_Contains_int_int, cl_slices_Index_int_int, sem_slices_Index_int_int, mem_fIx]
def gateNew (n : Int) : DGate := ⟨-1, [], if 0 < n then (if 1 < n then [-1, -1] else [-1]) else []⟩
theorem wrap_one : IntKind.wrap .i64 (0 + 1) = 1 := by decide
theorem wrap_two : IntKind.wrap .i64 (1 + 1) = 2 := by decide
theorem min2_0 {n : Int} : (0 < (if 2 < n then 2 else n)) = (0 < n) := by split <;> simp <;> omega
theorem min2_1 {n : Int} : (1 < (if 2 < n then 2 else n)) = (1 < n) := by split <;> simp <;> omega
theorem min2_2 {n : Int} : (2 < (if 2 < n then 2 else n)) = False := by split <;> simp <;> omega
def procCore (x : DImage) (i : Nat) : DCore := ⟨List.replicate 8 0, if h : i < x.Starts.length then x.Starts[i] else 0, i⟩
def coresF (x : DImage) : List DProcess → Nat → List DCore
  | [], _ => []
  | _ :: r, i => procCore x i :: coresF x r (i + 1)
def readyF : List DProcess → Nat → List Int
  | [], _ => []
  | _ :: r, i => (i : Int) :: readyF r (i + 1)
def overF : List DProcess → List Bool
  | [] => []
  | _ :: r => false :: overF r
def monG (m : DMonitor) : DGate := gateNew m.Queues.length
def kernelNew (p : DProgram) (x : DImage) : DKernel := ⟨p.Monitors.map monG, readyF p.Processes 0, coresF x p.Processes 0, overF p.Processes⟩
theorem gateNew_len {n : Int} : (gateNew n).Waits.length + (gateNew n).Queues.length ≤ 2 := by
  unfold gateNew; split <;> (try split) <;> simp
theorem tot_monG : ∀ {ms : List DMonitor}, tot wtGate (ms.map monG) ≤ 2 * ms.length
  | [] => Nat.le_refl _
  | m :: ms => by
    have := @tot_monG ms
    have h := @gateNew_len (m.Queues.length : Int)
    simp only [List.map_cons, tot, List.length_cons, monG, wtGate] at *
    omega
theorem coresF_tot {x : DImage} : ∀ {ps : List DProcess} {i : Nat}, tot wtCore (coresF x ps i) = 8 * ps.length ∧ (coresF x ps i).length = ps.length ∧ (readyF ps i).length = ps.length ∧ (overF ps).length = ps.length
  | [], _ => ⟨rfl, rfl, rfl, rfl⟩
  | p :: ps, i => by
    obtain ⟨a, b, c, d⟩ := @coresF_tot x ps (i + 1)
    simp only [coresF, readyF, overF, tot, List.length_cons, wtCore, procCore, List.length_replicate] at *
    omega
def insOk (op a b c : Int) : Bool := decide ((1 ≤ op ∧ op ≤ 10) ∧ (0 ≤ a ∧ a ≤ 7) ∧ (0 ≤ b ∧ b ≤ 7) ∧ (0 ≤ c ∧ c ≤ 4194303) ∧ (op = 4 ∨ b = 0) ∧ (op ≠ 1 ∨ c ≤ 1000000) ∧ (op ≠ 4 ∨ (1 ≤ c ∧ c ≤ 9)) ∧ ((op ≠ 5 ∧ op ≠ 6) ∨ c = 0) ∧ (op ≠ 8 ∨ a = 0) ∧ (op ≠ 10 ∨ 1 ≤ a))
theorem insOk_no {op a b c : Int} (h : ¬ ((1 ≤ op ∧ op ≤ 10) ∧ (0 ≤ a ∧ a ≤ 7) ∧ (0 ≤ b ∧ b ≤ 7) ∧ (0 ≤ c ∧ c ≤ 4194303) ∧ (op = 4 ∨ b = 0))) : insOk op a b c = false := by
  unfold insOk; apply decide_eq_false; omega
theorem insOk_t {op a b c : Int} (h : (1 ≤ op ∧ op ≤ 10) ∧ (0 ≤ a ∧ a ≤ 7) ∧ (0 ≤ b ∧ b ≤ 7) ∧ (0 ≤ c ∧ c ≤ 4194303) ∧ (op = 4 ∨ b = 0) ∧ (op ≠ 1 ∨ c ≤ 1000000) ∧ (op ≠ 4 ∨ (1 ≤ c ∧ c ≤ 9)) ∧ ((op ≠ 5 ∧ op ≠ 6) ∨ c = 0) ∧ (op ≠ 8 ∨ a = 0) ∧ (op ≠ 10 ∨ 1 ≤ a)) : some (AV.bool true, ([] : List (List AV))) = some (.bool (insOk op a b c), []) := by
  unfold insOk; rw [decide_eq_true h]
theorem insOk_f {op a b c : Int} (h : ¬ ((1 ≤ op ∧ op ≤ 10) ∧ (0 ≤ a ∧ a ≤ 7) ∧ (0 ≤ b ∧ b ≤ 7) ∧ (0 ≤ c ∧ c ≤ 4194303) ∧ (op = 4 ∨ b = 0) ∧ (op ≠ 1 ∨ c ≤ 1000000) ∧ (op ≠ 4 ∨ (1 ≤ c ∧ c ≤ 9)) ∧ ((op ≠ 5 ∧ op ≠ 6) ∨ c = 0) ∧ (op ≠ 8 ∨ a = 0) ∧ (op ≠ 10 ∨ 1 ≤ a))) : some (AV.bool false, ([] : List (List AV))) = some (.bool (insOk op a b c), []) := by
  unfold insOk; rw [decide_eq_false h]
theorem insOk_d {op a b c : Int} {p : Prop} [Decidable p] (h : p ↔ ((1 ≤ op ∧ op ≤ 10) ∧ (0 ≤ a ∧ a ≤ 7) ∧ (0 ≤ b ∧ b ≤ 7) ∧ (0 ≤ c ∧ c ≤ 4194303) ∧ (op = 4 ∨ b = 0) ∧ (op ≠ 1 ∨ c ≤ 1000000) ∧ (op ≠ 4 ∨ (1 ≤ c ∧ c ≤ 9)) ∧ ((op ≠ 5 ∧ op ≠ 6) ∨ c = 0) ∧ (op ≠ 8 ∨ a = 0) ∧ (op ≠ 10 ∨ 1 ≤ a))) : some (AV.bool (decide p), ([] : List (List AV))) = some (.bool (insOk op a b c), []) := by
  unfold insOk; rw [decide_eq_decide.2 h]
def valOk (n : Int) : Bool := decide (-1000000 ≤ n ∧ n ≤ 1000000)
def bitF (b : Bool) : Int := if b = true then 1 else 0
def dOp (w : Int) : Int := w.fdiv (2 ^ 28)
def s25 (w : Int) : Int := w.fdiv (2 ^ 25)
def s22 (w : Int) : Int := w.fdiv (2 ^ 22)
def dA (w : Int) : Int := IntKind.wrap .i64 (BitVec.ofInt 64 (s25 w) &&& BitVec.ofInt 64 7).toNat
def dB (w : Int) : Int := IntKind.wrap .i64 (BitVec.ofInt 64 (s22 w) &&& BitVec.ofInt 64 7).toNat
def dC (w : Int) : Int := IntKind.wrap .i64 (BitVec.ofInt 64 w &&& BitVec.ofInt 64 4194303).toNat
theorem b28 {w : Int} : bin .shr (.int .i64 w) (.int .u64 28) = some (.int .i64 (dOp w)) := rfl
theorem b25 {w : Int} : bin .shr (.int .i64 w) (.int .u64 25) = some (.int .i64 (s25 w)) := rfl
theorem b22 {w : Int} : bin .shr (.int .i64 w) (.int .u64 22) = some (.int .i64 (s22 w)) := rfl
theorem bA {w : Int} : bin .and (.int .i64 (s25 w)) (.int .i64 7) = some (.int .i64 (dA w)) := rfl
theorem bB {w : Int} : bin .and (.int .i64 (s22 w)) (.int .i64 7) = some (.int .i64 (dB w)) := rfl
theorem bC {w : Int} : bin .and (.int .i64 w) (.int .i64 4194303) = some (.int .i64 (dC w)) := rfl
theorem valOk_zero : valOk 0 = true := by decide
theorem big_op {w : Int} (h : ¬ w ≤ 8589934592) : insOk (dOp w) (dA w) (dB w) (dC w) = false := by
  apply insOk_no
  have : 11 ≤ dOp w := by unfold dOp; rw [Int.fdiv_eq_ediv_of_nonneg _ (by decide)]; omega
  omega
def decOk (w : Int) : Bool := decide (0 ≤ w) && insOk (dOp w) (dA w) (dB w) (dC w)
def decR (w : Int) : AV := if decOk w = true then .tup [.agg [.int .i64 (dOp w), .int .i64 (dA w), .int .i64 (dB w), .int .i64 (dC w)], .bool true] else .tup [.agg [.int .i64 0, .int .i64 0, .int .i64 0, .int .i64 0], .bool false]
def calcN (op a b : Int) : Int := if op = 1 then IntKind.wrap .i64 (a + b) else if op = 2 then IntKind.wrap .i64 (a - b) else if op = 3 then IntKind.wrap .i64 (a * b) else if op = 4 then IntKind.wrap .i64 (a.tdiv b) else if op = 5 then a.tmod b else if op = 6 then bitF (decide (a < b)) else if op = 7 then bitF (decide (a = b)) else if op = 8 then bitF (!decide (a = 0) && !decide (b = 0)) else bitF (!decide (a = 0) || !decide (b = 0))
def calcF (op a b : Int) : Int × Int := if valOk a = true ∧ valOk b = true ∧ 1 ≤ op ∧ op ≤ 9 then (if b = 0 ∧ (op = 4 ∨ op = 5) then (0, 2) else if valOk (calcN op a b) = true then (calcN op a b, 0) else (0, 1)) else (0, 1)
def negF (a : Int) : Int × Int := if valOk a = true then (IntKind.wrap .i64 (0 - a), 0) else (0, 1)
def coreOkF (c : DCore) : Bool := c.Regs.all valOk && (decide (c.Regs.length = 8) && (decide (0 ≤ c.Pc) && decide (-1 ≤ c.Process ∧ c.Process ≤ 3)))
theorem any_valOk {xs : List Int} : (xs.any fun n => !valOk n) = !(xs.all valOk) := by
  induction xs with
  | nil => rfl
  | cons y ys ih => cases h : valOk y <;> simp [ih, h]
def wordR (t : List Int) (pc : Int) : AV := if 0 ≤ pc ∧ pc ≤ (t.length : Int) - 1 then decR (t.getD pc.toNat 0) else .tup [.agg [.int .i64 0, .int .i64 0, .int .i64 0, .int .i64 0], .bool false]
def memF (op : Int) : Bool := decide (op = 2) || (decide (op = 3) || decide (op = 9))
def stepG (x : DCore) (m : List Int) (op : Int) (a b c : Nat) : DCore × List Int × Int :=
  if op = 2 ∨ op = 3 ∨ op = 9 then
    if m.length ≤ c then (x, m, 4)
    else if op = 3 then ({ x with Pc := IntKind.wrap .i64 (x.Pc + 1) }, m.set c (x.Regs.getD a 0), 0)
    else if valOk (m.getD c 0) = true then ({ x with Regs := x.Regs.set a (m.getD c 0), Pc := IntKind.wrap .i64 (x.Pc + 1) }, if op = 9 then m.set c 1 else m, 0)
    else (x, m, 4)
  else if op = 7 then ({ x with Pc := if x.Regs.getD a 0 = 0 then (c : Int) else IntKind.wrap .i64 (x.Pc + 1) }, m, 0)
  else if op = 8 then ({ x with Pc := (c : Int) }, m, 0)
  else if op = 10 then ({ x with Pc := IntKind.wrap .i64 (x.Pc + 1) }, m, 10)
  else
    let r : Int × Int := if op = 1 then ((c : Int), 0) else if op = 4 then calcF c (x.Regs.getD a 0) (x.Regs.getD b 0) else if op = 5 then (bitF (decide (x.Regs.getD a 0 = 0)), 0) else negF (x.Regs.getD a 0)
    if r.2 = 0 then ({ x with Regs := x.Regs.set a r.1, Pc := IntKind.wrap .i64 (x.Pc + 1) }, m, 0) else (x, m, r.2)
def stepF (x : DCore) (t m : List Int) : DCore × List Int × Int :=
  if coreOkF x = true ∧ (0 ≤ x.Pc ∧ x.Pc ≤ (t.length : Int) - 1) ∧ decOk (t.getD x.Pc.toNat 0) = true then stepG x m (dOp (t.getD x.Pc.toNat 0)) (dA (t.getD x.Pc.toNat 0)).toNat (dB (t.getD x.Pc.toNat 0)).toNat (dC (t.getD x.Pc.toNat 0)).toNat else (x, m, 4)
theorem decOk_bounds {w : Int} (h : decOk w = true) : ∃ op : Int, ∃ a b c : Nat, dOp w = op ∧ dA w = (a : Int) ∧ dB w = (b : Int) ∧ dC w = (c : Int) ∧ (1 ≤ op ∧ op ≤ 10) ∧ a < 8 ∧ b < 8 ∧ c ≤ 4194303 := by
  simp only [decOk, insOk, Bool.and_eq_true, decide_eq_true_eq] at h
  exact ⟨dOp w, (dA w).toNat, (dB w).toNat, (dC w).toNat, rfl, by omega, by omega, by omega, by omega, by omega, by omega, by omega⟩
theorem coreOk_len {x : DCore} (h : coreOkF x = true) : x.Regs.length = 8 ∧ 0 ≤ x.Pc := by
  simp only [coreOkF, Bool.and_eq_true, decide_eq_true_eq] at h
  exact ⟨h.2.1, h.2.2.1⟩
theorem stepG_len {x : DCore} {m : List Int} {op : Int} {a b c : Nat} : (stepG x m op a b c).1.Regs.length = x.Regs.length ∧ (stepG x m op a b c).2.1.length = m.length := by
  unfold stepG
  dsimp only
  repeat' split
  all_goals first | exact ⟨rfl, rfl⟩ | (simp only [List.length_set]; exact ⟨rfl, rfl⟩) | simp
theorem stepF_regs {x : DCore} {t m : List Int} : (stepF x t m).1.Regs.length = x.Regs.length := by
  unfold stepF; split
  · exact stepG_len.1
  · rfl
theorem stepF_mem {x : DCore} {t m : List Int} : (stepF x t m).2.1.length = m.length := by
  unfold stepF; split
  · exact stepG_len.2
  · rfl
def nV (m : DMonitor) : Nat := m.Vars.length
def nP (q : DProcess) : Nat := q.Vars.length + 2
def pv (p : DProgram) (k : Nat) : Nat := match p.Processes[k]? with | some q => q.Vars.length | none => 0
theorem pv_eq {p : DProgram} {k : Nat} (h : k < p.Processes.length) : pv p k = p.Processes[k].Vars.length := by simp [pv, h]
def procIn (p : DProgram) (k : Int) : Prop := 0 ≤ k ∧ k ≤ (p.Processes.length : Int) - 1
instance (p : DProgram) (k : Int) : Decidable (procIn p k) := inferInstanceAs (Decidable (_ ∧ _))
def varAt (p : DProgram) (k i : Int) : Int := if (0 ≤ k ∧ k ≤ (p.Processes.length : Int) - 1) ∧ (0 ≤ i ∧ i ≤ (pv p k.toNat : Int)) then ((1 + tot nV p.Monitors + tot nP (p.Processes.take k.toNat) : Nat) : Int) + i else -1
theorem tot_drop {α : Type} {f : α → Nat} {xs : List α} {i : Nat} (h : i < xs.length) : tot f (xs.drop i) = f xs[i] + tot f (xs.drop (i + 1)) := by
  rw [List.drop_eq_getElem_cons h]; rfl
theorem totTake_le {α : Type} {f : α → Nat} : ∀ {xs : List α} {n : Nat}, tot f (xs.take n) ≤ tot f xs
  | [], n => by simp
  | x :: xs, 0 => by simp [tot]
  | x :: xs, n + 1 => by have := @totTake_le α f xs n; simp only [List.take_succ_cons, tot]; omega
theorem tot_mono {α : Type} {f g : α → Nat} (h : ∀ x, f x ≤ g x) : ∀ {xs : List α}, tot f xs ≤ tot g xs
  | [] => Nat.le_refl _
  | x :: xs => by have := @tot_mono _ _ _ h xs; have := h x; simp only [tot]; omega
theorem tot_nP : ∀ {xs : List DProcess}, tot nP xs ≤ tot wtProcess xs + 2 * xs.length
  | [] => Nat.le_refl _
  | x :: xs => by have := @tot_nP xs; simp only [tot, nP, wtProcess, List.length_cons]; omega
theorem tot_nV {xs : List DMonitor} : tot nV xs ≤ tot wtMonitor xs := tot_mono fun x => by unfold nV wtMonitor; omega
def atsF (p : DProgram) (k : Int) : List ByteArray → Nat → List Int
  | [], _ => []
  | _ :: r, i => varAt p k i :: atsF p k r (i + 1)
def varsOf (p : DProgram) (k : Nat) : List ByteArray := match p.Processes[k]? with | some q => q.Vars | none => []
theorem varsOf_eq {p : DProgram} {k : Nat} (h : k < p.Processes.length) : varsOf p k = p.Processes[k].Vars := by simp [varsOf, h]
def ownPlaces (p : DProgram) (k : Int) : DPlaces := if 0 ≤ k ∧ k ≤ (p.Processes.length : Int) - 1 then ⟨varsOf p k.toNat, atsF p k (varsOf p k.toNat) 0⟩ else ⟨[], []⟩
theorem atsF_len {p : DProgram} {k : Int} : ∀ {xs : List ByteArray} {i : Nat}, (atsF p k xs i).length = xs.length
  | [], _ => rfl
  | x :: xs, i => by simp only [atsF, List.length_cons, @atsF_len p k xs (i + 1)]
theorem ownPlaces_wt {p : DProgram} {k : Int} : wtPlaces (ownPlaces p k) ≤ 2 * tot wtProcess p.Processes := by
  unfold ownPlaces
  split
  · simp only [wtPlaces, atsF_len]
    unfold varsOf
    cases h : p.Processes[k.toNat]? with
    | none => simp [tot]
    | some q =>
      have := le_tot wtProcess (List.mem_of_getElem? h)
      simp only [wtProcess] at this
      simp only; omega
  · simp [wtPlaces, tot]
def mv (p : DProgram) (k : Nat) : Nat := match p.Monitors[k]? with | some q => q.Vars.length | none => 0
theorem mv_eq {p : DProgram} {k : Nat} (h : k < p.Monitors.length) : mv p k = p.Monitors[k].Vars.length := by simp [mv, h]
def sharedAt (p : DProgram) (k i : Int) : Int := if (0 ≤ k ∧ k ≤ (p.Monitors.length : Int) - 1) ∧ (0 ≤ i ∧ i ≤ (mv p k.toNat : Int) - 1) then ((1 + tot nV (p.Monitors.take k.toNat) : Nat) : Int) + i else -1
def argAt (p : DProgram) (k : Int) : Int := if 0 ≤ k ∧ k ≤ (p.Processes.length : Int) - 1 then varAt p k (pv p k.toNat) else -1
def resultAt (p : DProgram) (k : Int) : Int := if argAt p k < 0 then -1 else IntKind.wrap .i64 (argAt p k + 1)
theorem nV_lt {p : DProgram} {k : Nat} (h : k < p.Monitors.length) : p.Monitors[k].Vars.length + tot nV (p.Monitors.take k) ≤ tot nV p.Monitors := by
  have := @tot_take _ nV p.Monitors k h
  have : nV p.Monitors[k] = p.Monitors[k].Vars.length := rfl
  omega
def satsF (p : DProgram) (m : Int) : List ByteArray → Nat → List Int
  | [], _ => []
  | _ :: r, i => sharedAt p m i :: satsF p m r (i + 1)
def mvars (p : DProgram) (m : Nat) : List ByteArray := match p.Monitors[m]? with | some q => q.Vars | none => []
def ents (p : DProgram) (m : Nat) : List DEntry := match p.Monitors[m]? with | some q => q.Entries | none => []
def paramOf (p : DProgram) (m n : Nat) : ByteArray := match (ents p m)[n]? with | some q => q.Param | none => ⟨#[]⟩
theorem mvars_eq {p : DProgram} {m : Nat} (h : m < p.Monitors.length) : mvars p m = p.Monitors[m].Vars := by simp [mvars, h]
theorem ents_eq {p : DProgram} {m : Nat} (h : m < p.Monitors.length) : ents p m = p.Monitors[m].Entries := by simp [ents, h]
theorem param_eq {p : DProgram} {m n : Nat} (h : m < p.Monitors.length) (h2 : n < p.Monitors[m].Entries.length) : paramOf p m n = p.Monitors[m].Entries[n].Param := by
  unfold paramOf; rw [ents_eq h]; simp [h2]
def resB : ByteArray := ⟨#[114, 101, 115, 117, 108, 116]⟩
def entryPlaces (p : DProgram) (k m n : Int) : DPlaces :=
  if (0 ≤ k ∧ k ≤ (p.Processes.length : Int) - 1) ∧ (0 ≤ m ∧ m ≤ (p.Monitors.length : Int) - 1) ∧ (0 ≤ n ∧ n ≤ ((ents p m.toNat).length : Int) - 1) then ⟨[paramOf p m.toNat n.toNat, resB] ++ mvars p m.toNat, [argAt p k, resultAt p k] ++ satsF p m (mvars p m.toNat) 0⟩ else ⟨[], []⟩
theorem satsF_len {p : DProgram} {k : Int} : ∀ {xs : List ByteArray} {i : Nat}, (satsF p k xs i).length = xs.length
  | [], _ => rfl
  | x :: xs, i => by simp only [satsF, List.length_cons, @satsF_len p k xs (i + 1)]
theorem entryPlaces_wt {p : DProgram} {k m n : Int} : wtPlaces (entryPlaces p k m n) ≤ 3 * tot wtMonitor p.Monitors + 100 := by
  unfold entryPlaces
  split
  · simp only [wtPlaces, List.length_append, satsF_len, List.length_cons, List.length_nil, List.cons_append, List.nil_append, tot]
    have hr : wtS resB = 6 := rfl
    unfold paramOf mvars ents
    cases h : p.Monitors[m.toNat]? with
    | none => simp [tot, wtS] at *; omega
    | some q =>
      have h1 := le_tot wtMonitor (List.mem_of_getElem? h)
      simp only [wtMonitor] at h1
      simp only
      cases h2 : q.Entries[n.toNat]? with
      | none =>
        have : wtS (⟨#[]⟩ : ByteArray) = 0 := rfl
        simp only; omega
      | some e =>
        have h3 := le_tot wtEntry (List.mem_of_getElem? h2)
        simp only [wtEntry] at h3
        have : wtS e.Param = e.Param.size := rfl
        simp only; omega
  · simp [wtPlaces, tot]
theorem sh28 {x : Int} : bin .shl (.int .i64 x) (.int .u64 28) = some (.int .i64 (IntKind.wrap .i64 (x * 268435456))) := rfl
theorem sh25 {x : Int} : bin .shl (.int .i64 x) (.int .u64 25) = some (.int .i64 (IntKind.wrap .i64 (x * 33554432))) := rfl
theorem sh22 {x : Int} : bin .shl (.int .i64 x) (.int .u64 22) = some (.int .i64 (IntKind.wrap .i64 (x * 4194304))) := rfl
def encN (op a b c : Int) : Int := op * 268435456 + a * 33554432 + b * 4194304 + c
def encF (op a b c : Int) : Int := if insOk op a b c = true then encN op a b c else 0
theorem insOk_bd {op a b c : Int} (h : insOk op a b c = true) : (1 ≤ op ∧ op ≤ 10) ∧ (0 ≤ a ∧ a ≤ 7) ∧ (0 ≤ b ∧ b ≤ 7) ∧ (0 ≤ c ∧ c ≤ 4194303) := by
  unfold insOk at h
  have := of_decide_eq_true h
  exact ⟨this.1, this.2.1, this.2.2.1, this.2.2.2.1⟩
/-! bytes and strings; numbers as bytes -/
def bsA (l : List UInt8) : ByteArray := ⟨l.toArray⟩
theorem bsA_nil : (⟨#[]⟩ : ByteArray) = bsA [] := rfl
theorem bsA_size {l : List UInt8} : (bsA l).size = l.length := by simp [bsA, ByteArray.size]
theorem bsA_app {a b : List UInt8} : bsA a ++ bsA b = bsA (a ++ b) := by
  apply ByteArray.ext
  simp [bsA]
theorem bsA_mk {l : List UInt8} : (⟨l.toArray⟩ : ByteArray) = bsA l := rfl
theorem bsA_inj {a b : List UInt8} : bsA a = bsA b ↔ a = b := by
  constructor
  · intro h
    have := congrArg (fun x : ByteArray => x.data.toList) h
    simpa [bsA] using this
  · intro h; rw [h]
theorem bytesOf_map : ∀ {l : List UInt8}, bytesOf (l.map cY) = some l
  | [] => rfl
  | b :: l => by
    simp only [List.map_cons, cY, bytesOf, bytesOf_map (l := l), Option.map_some]
    congr 1
    simp
theorem map_cY_snoc {xs : List UInt8} {v : Int} {b : UInt8} (h : v = (b.toNat : Int)) : xs.map cY ++ [[.int .u8 v]] = (xs ++ [b]).map cY := by rw [h]; exact snoc_cY
theorem wrap_u8 {k : Nat} (h : k < 256) : IntKind.wrap .u8 (k : Int) = ((UInt8.ofNat k).toNat : Int) := by
  have : (UInt8.ofNat k).toNat = k := by rw [UInt8.toNat_ofNat']; exact Nat.mod_eq_of_lt h
  rw [this]
  have e : ∀ j : Int, 0 ≤ j → j < 256 → IntKind.wrap .u8 j = j := by
    intro j h1 h2
    simp [IntKind.wrap, IntKind.signed, IntKind.bits]
    omega
  exact e _ (by omega) (by omega)
def varI (n : Nat) : List UInt8 := if h : 127 < n then UInt8.ofNat (n % 128 + 128) :: varI (n / 128) else []
termination_by n
decreasing_by omega
def varL (n : Nat) : Nat := if h : 127 < n then varL (n / 128) else n
termination_by n
decreasing_by omega
theorem varI_hi {n : Nat} (h : 127 < n) : varI n = UInt8.ofNat (n % 128 + 128) :: varI (n / 128) := by rw [varI, dif_pos h]
theorem varI_lo {n : Nat} (h : ¬ 127 < n) : varI n = [] := by rw [varI, dif_neg h]
theorem varL_hi {n : Nat} (h : 127 < n) : varL n = varL (n / 128) := by rw [varL, dif_pos h]
theorem varL_lo {n : Nat} (h : ¬ 127 < n) : varL n = n := by rw [varL, dif_neg h]
theorem varL_le (n : Nat) : varL n ≤ 127 := by
  induction n using Nat.strongRecOn with
  | ind n ih =>
    by_cases h : 127 < n
    · rw [varL_hi h]; exact ih _ (by omega)
    · rw [varL_lo h]; omega
theorem varI_len (n : Nat) : (varI n).length ≤ n := by
  induction n using Nat.strongRecOn with
  | ind n ih =>
    by_cases h : 127 < n
    · rw [varI_hi h, List.length_cons]
      have := ih (n / 128) (by omega)
      omega
    · rw [varI_lo h]; simp
theorem varI_len5 (n : Nat) (h : n ≤ 17179869184) : (varI n).length ≤ 4 := by
  by_cases h1 : 127 < n
  · rw [varI_hi h1]
    by_cases h2 : 127 < n / 128
    · rw [varI_hi h2]
      by_cases h3 : 127 < n / 128 / 128
      · rw [varI_hi h3]
        by_cases h4 : 127 < n / 128 / 128 / 128
        · rw [varI_hi h4]
          by_cases h5 : 127 < n / 128 / 128 / 128 / 128
          · omega
          · rw [varI_lo h5]; simp
        · rw [varI_lo h4]; simp
      · rw [varI_lo h3]; simp
    · rw [varI_lo h2]; simp
  · rw [varI_lo h1]; simp
def varN (n : Nat) : List UInt8 := varI n ++ [UInt8.ofNat (varL n)]
theorem varN_len (n : Nat) (h : n ≤ 17179869184) : (varN n).length ≤ 5 := by
  have := varI_len5 n h
  unfold varN
  simp only [List.length_append, List.length_singleton]; omega
theorem tmod_cast {n : Nat} : Int.tmod (n : Int) 128 = ((n % 128 : Nat) : Int) := by
  rw [Int.tmod_eq_emod_of_nonneg (by omega)]; omega
theorem tdiv_cast {n : Nat} : Int.tdiv (n : Int) 128 = ((n / 128 : Nat) : Int) := by
  rw [Int.tdiv_eq_ediv_of_nonneg (by omega)]; omega
theorem seg_snocY {xs : List UInt8} {b : UInt8} : seg ((xs ++ [b]).map cY) 0 (xs.length + 1) = (xs ++ [b]).map cY := by
  unfold seg
  rw [List.drop_zero, List.take_of_length_le (by simp)]
theorem byte_hi {n : Nat} : IntKind.wrap .u8 (IntKind.wrap .i64 (Int.tmod (n : Int) 128 + 128)) = ((UInt8.ofNat (n % 128 + 128)).toNat : Int) := by
  rw [tmod_cast, wrapI (by omega) (by omega)]
  have : ((n % 128 : Nat) : Int) + 128 = ((n % 128 + 128 : Nat) : Int) := by omega
  rw [this]
  exact wrap_u8 (by omega)
def xor32 (x y : Int) : Int := IntKind.wrap .u32 (BitVec.ofInt 32 x ^^^ BitVec.ofInt 32 y).toNat
theorem bxor32 {x y : Int} : bin .xor (.int .u32 x) (.int .u32 y) = some (.int .u32 (xor32 x y)) := rfl
def roundF (s : Int) : Int := if s.tmod 2 = 1 then xor32 (IntKind.wrap .u32 (s.tdiv 2)) 3558460437 else IntKind.wrap .u32 (s.tdiv 2)
def roundsF : List Unit → Int → Int
  | [], s => s
  | _ :: r, s => roundsF r (roundF s)
def sumF : List UInt8 → Int → Int
  | [], s => s
  | b :: r, s => sumF r (roundsF (List.replicate 8 ()) (xor32 s (IntKind.wrap .u32 (b.toNat : Int))))
def h24 (x : Int) : Int := x.fdiv (2 ^ 24)
def h16 (x : Int) : Int := x.fdiv (2 ^ 16)
def h8 (x : Int) : Int := x.fdiv (2 ^ 8)
theorem bh24 {x : Int} : bin .shr (.int .u32 x) (.int .u64 24) = some (.int .u32 (h24 x)) := rfl
theorem bh16 {x : Int} : bin .shr (.int .u32 x) (.int .u64 16) = some (.int .u32 (h16 x)) := rfl
theorem bh8 {x : Int} : bin .shr (.int .u32 x) (.int .u64 8) = some (.int .u32 (h8 x)) := rfl
def fourF (x : Int) : List UInt8 := [UInt8.ofNat (IntKind.wrap .u8 (h24 x)).toNat, UInt8.ofNat (IntKind.wrap .u8 (h16 x)).toNat, UInt8.ofNat (IntKind.wrap .u8 (h8 x)).toNat, UInt8.ofNat (IntKind.wrap .u8 x).toNat]
theorem seg_four {a b c d : List AV} : seg [a, b, c, d] 0 4 = [a, b, c, d] := rfl
theorem bsA_get {l : List UInt8} {i : Nat} (h : i < l.length) : (bsA l).data.getD i 0 = l[i] := by
  simp [bsA, Array.getD_eq_getD_getElem?, h]
def sealF (l : List UInt8) : List UInt8 × Bool := if 20000 < l.length then ([], false) else (l ++ fourF (sumF l 4294967295), true)
def stS (n : Int) : Option Int → List Int → Bool
  | _, [] => true
  | p, a :: r => decide (0 ≤ a ∧ a ≤ n - 1) && ((match p with | none => decide (a = 0) | some q => decide (q < a)) && stS n (some a) r)
def stI (n : Int) : Option Int → List Int → Bool
  | _, [] => true
  | p, a :: r => decide (a < n) && ((match p with | none => true | some q => decide (q < a)) && stI n (some a) r)
theorem stS_none {n a : Int} {r : List Int} : stS n none (a :: r) = (decide (0 ≤ a ∧ a ≤ n - 1) && (decide (a = 0) && stS n (some a) r)) := rfl
theorem stS_some {n a q : Int} {r : List Int} : stS n (some q) (a :: r) = (decide (0 ≤ a ∧ a ≤ n - 1) && (decide (q < a) && stS n (some a) r)) := rfl
theorem stI_none {n a : Int} {r : List Int} : stI n none (a :: r) = (decide (a < n) && (true && stI n (some a) r)) := rfl
theorem stI_some {n a q : Int} {r : List Int} : stI n (some q) (a :: r) = (decide (a < n) && (decide (q < a) && stI n (some a) r)) := rfl
theorem stSI {n : Int} : ∀ {q : Int} {xs : List Int}, 0 ≤ q → stS n (some q) xs = stI n (some q) xs
  | q, [], _ => rfl
  | q, a :: r, h => by
    rw [stS_some, stI_some]
    by_cases h1 : q < a
    · rw [stSI (q := a) (xs := r) (by omega)]
      have e : (decide (0 ≤ a ∧ a ≤ n - 1)) = decide (a < n) := by rw [decide_eq_decide]; omega
      rw [e]
    · simp [h1]
theorem stS_first {n : Int} (hn : 1 ≤ n) : ∀ (l : List Int) (h : 0 < l.length), stS n none l = (decide (l[0] = 0) && stI n none l)
  | [], h => by simp at h
  | y :: ys, _ => by
    simp only [List.getElem_cons_zero]
    rw [stS_none, stI_none]
    by_cases hy : y = 0
    · subst hy
      rw [stSI (Int.le_refl 0)]
      have e : decide ((0 : Int) ≤ 0 ∧ (0 : Int) ≤ n - 1) = decide ((0 : Int) < n) := by rw [decide_eq_decide]; omega
      rw [e]; simp
    · simp [hy]
def prevO (xs : List Int) : Nat → Option Int
  | 0 => none
  | j + 1 => xs[j]?
def wordB (n size w : Int) : Bool := decOk w && ((!(memF (dOp w) && decide (size ≤ dC w))) && (!((decide (dOp w = 7) || decide (dOp w = 8)) && decide (n ≤ dC w))))
def lastF : List Int → DIns → DIns
  | [], d => d
  | w :: r, _ => lastF r ⟨dOp w, dA w, dB w, dC w⟩
def imageOkF (x : DImage) : Bool := decide (1 ≤ (x.Starts.length : Int) ∧ (x.Starts.length : Int) ≤ 4) && (decide (1 ≤ (x.Text.length : Int) ∧ (x.Text.length : Int) ≤ 800) && (decide (1 ≤ x.Size ∧ x.Size ≤ 100) && (stS x.Text.length none x.Starts && (x.Text.all (wordB x.Text.length x.Size) && (decide ((lastF x.Text ⟨0, 0, 0, 0⟩).Op = 10) && decide ((lastF x.Text ⟨0, 0, 0, 0⟩).A = 7))))))
def varZ (n : Int) : List UInt8 := varN n.toNat
theorem varZ_len {n : Int} (h : n ≤ 17179869184) : (varZ n).length ≤ 5 := varN_len _ (by omega)
theorem byteE_bsA {l : List UInt8} : byteE (bsA l) = l.map cY := rfl
theorem map_cY_app {a b : List UInt8} : a.map cY ++ b.map cY = (a ++ b).map cY := by rw [List.map_append]
theorem map_cI_two {xs : List Int} {a b : Int} : xs.map cI ++ [[.int .i64 a], [.int .i64 b]] = (xs ++ [a, b]).map cI := by simp
theorem seg_two {a b : List AV} : seg [a, b] 0 2 = [a, b] := rfl
def midF (ws : List Int) : List Int := ws.flatMap fun w => [s22 w, dC w]
theorem midF_cons {w : Int} {ws : List Int} : midF (w :: ws) = [s22 w, dC w] ++ midF ws := rfl
theorem midF_nil : midF [] = [] := rfl
theorem midF_len : ∀ {ws : List Int}, (midF ws).length = 2 * ws.length
  | [] => rfl
  | w :: ws => by rw [midF_cons, List.length_append, midF_len (ws := ws)]; simp only [List.length_cons, List.length_nil]; omega
def varsF (ns : List Int) : List UInt8 := ns.flatMap varZ
theorem varsF_app {a b : List Int} : varsF (a ++ b) = varsF a ++ varsF b := by simp [varsF]
theorem varsF_one {a : Int} : varsF [a] = varZ a := by simp [varsF]
theorem varsF_cons {a : Int} {b : List Int} : varsF (a :: b) = varZ a ++ varsF b := by simp [varsF]
theorem varsF_nil : varsF [] = [] := rfl
theorem varsF_len : ∀ {ns : List Int}, (∀ n ∈ ns, n ≤ 17179869184) → (varsF ns).length ≤ 5 * ns.length
  | [], _ => by simp [varsF]
  | n :: ns, h => by
    rw [varsF_cons, List.length_append, List.length_cons]
    have h1 := varZ_len (h n (by simp))
    have h2 := varsF_len (ns := ns) fun m hm => h m (by simp [hm])
    omega
theorem dec_bd {w : Int} (h : decOk w = true) : (0 ≤ s22 w ∧ s22 w ≤ 1000000000) ∧ (0 ≤ dC w ∧ dC w ≤ 1000000000) := by
  unfold decOk at h
  simp only [Bool.and_eq_true, decide_eq_true_eq] at h
  obtain ⟨h0, h1⟩ := h
  have hb := insOk_bd h1
  have h2 : dOp w ≤ 10 := hb.1.2
  unfold dOp at h2
  rw [Int.fdiv_eq_ediv_of_nonneg _ (by decide)] at h2
  unfold s22
  rw [Int.fdiv_eq_ediv_of_nonneg _ (by decide)]
  omega
theorem mid_bd {ws : List Int} (h : ∀ w ∈ ws, decOk w = true) : ∀ n ∈ midF ws, 0 ≤ n ∧ n ≤ 1000000000 := by
  intro n hn
  unfold midF at hn
  rw [List.mem_flatMap] at hn
  obtain ⟨w, hw, hn⟩ := hn
  have := dec_bd (h w hw)
  simp only [List.mem_cons, List.mem_nil_iff, or_false] at hn
  rcases hn with rfl | rfl
  · exact this.1
  · exact this.2
def numsF (x : DImage) : List Int := ((x.Text.length : Int) :: midF x.Text) ++ ((x.Starts.length : Int) :: x.Starts) ++ [x.Size]
theorem imageOk_parts {x : DImage} (h : imageOkF x = true) : (1 ≤ (x.Starts.length : Int) ∧ (x.Starts.length : Int) ≤ 4) ∧ (1 ≤ (x.Text.length : Int) ∧ (x.Text.length : Int) ≤ 800) ∧ (1 ≤ x.Size ∧ x.Size ≤ 100) ∧ stS x.Text.length none x.Starts = true ∧ (∀ w ∈ x.Text, decOk w = true) := by
  unfold imageOkF at h
  simp only [Bool.and_eq_true, decide_eq_true_eq, List.all_eq_true] at h
  refine ⟨h.1, h.2.1, h.2.2.1, h.2.2.2.1, fun w hw => ?_⟩
  have := h.2.2.2.2.1 w hw
  unfold wordB at this
  simp only [Bool.and_eq_true] at this
  exact this.1
theorem stS_bd {n : Int} : ∀ {p : Option Int} {xs : List Int}, stS n p xs = true → ∀ a ∈ xs, 0 ≤ a ∧ a ≤ n - 1
  | p, [], _, a, ha => by simp at ha
  | p, y :: ys, h, a, ha => by
    unfold stS at h
    simp only [Bool.and_eq_true, decide_eq_true_eq] at h
    rcases List.mem_cons.1 ha with rfl | ha
    · exact h.1
    · exact stS_bd h.2.2 a ha
theorem nums_bd {x : DImage} (h : imageOkF x = true) : ∀ n ∈ numsF x, 0 ≤ n ∧ n ≤ 1000000000 := by
  obtain ⟨h1, h2, h3, h4, h5⟩ := imageOk_parts h
  intro n hn
  unfold numsF at hn
  simp only [List.mem_append, List.mem_cons, List.mem_nil_iff, or_false] at hn
  rcases hn with ((rfl | hn) | (rfl | hn)) | rfl
  · omega
  · exact mid_bd h5 n hn
  · omega
  · have := stS_bd h4 n hn; omega
  · omega
theorem nums_len {x : DImage} : (numsF x).length = 2 * x.Text.length + x.Starts.length + 3 := by
  unfold numsF
  simp only [List.length_append, List.length_cons, List.length_nil, midF_len]; omega
def imageTextF (x : DImage) : List UInt8 × Bool := if imageOkF x = true then sealF (varsF (numsF x)) else ([], false)
theorem imageText_len (x : DImage) (h : imageOkF x = true) : (varsF (numsF x)).length ≤ 100000 := by
  have h1 := varsF_len (ns := numsF x) fun n hn => by have := nums_bd h n hn; omega
  rw [nums_len] at h1
  have := imageOk_parts h
  omega
/-! numbers read out of bytes -/
def scanB : Nat → List UInt8 → Option (List UInt8)
  | 0, _ => none
  | _ + 1, [] => none
  | n + 1, b :: r => if b.toNat < 128 then some [b] else (scanB n r).map (b :: ·)
def valB : List UInt8 → Nat
  | [] => 0
  | b :: r => b.toNat % 128 + 128 * valB r
theorem valB_app : ∀ {p : List UInt8} {b : UInt8}, valB (p ++ [b]) = valB p + 128 ^ p.length * (b.toNat % 128)
  | [], b => by simp [valB]
  | a :: p, b => by
    simp only [List.cons_append, valB, valB_app (p := p), List.length_cons, Nat.pow_succ, Nat.mul_add]
    have : 128 * (128 ^ p.length * (b.toNat % 128)) = 128 ^ p.length * 128 * (b.toNat % 128) := by rw [Nat.mul_comm (128 ^ p.length) 128, Nat.mul_assoc]
    omega
theorem valB_lt : ∀ {p : List UInt8}, valB p < 128 ^ p.length
  | [] => by simp [valB]
  | a :: p => by
    have := valB_lt (p := p)
    simp only [valB, List.length_cons, Nat.pow_succ]
    omega
theorem scanB_some : ∀ {n : Nat} {l bs : List UInt8}, scanB n l = some bs → (∃ p b, bs = p ++ [b] ∧ b.toNat < 128 ∧ ∀ x ∈ p, 128 ≤ x.toNat) ∧ bs = l.take bs.length ∧ bs.length ≤ n
  | 0, _, _, h => by simp [scanB] at h
  | n + 1, [], _, h => by simp [scanB] at h
  | n + 1, b :: r, bs, h => by
    unfold scanB at h
    split at h
    · rename_i hb
      simp only [Option.some.injEq] at h
      subst h
      exact ⟨⟨[], b, rfl, hb, by simp⟩, by simp, by simp⟩
    · rename_i hb
      simp only [Option.map_eq_some_iff] at h
      obtain ⟨cs, h1, rfl⟩ := h
      obtain ⟨⟨p, c, h2, h3, h4⟩, h5, h6⟩ := scanB_some h1
      refine ⟨⟨b :: p, c, by rw [h2]; rfl, h3, fun x hx => ?_⟩, ?_, by simp only [List.length_cons]; omega⟩
      · rcases List.mem_cons.1 hx with rfl | hx
        · omega
        · exact h4 x hx
      · simp only [List.length_cons, List.take_succ_cons]; rw [← h5]
theorem ofNat_hi {b : UInt8} (h : 128 ≤ b.toNat) : UInt8.ofNat (b.toNat % 128 + 128) = b := by
  have h2 := b.toNat_lt
  have e : b.toNat % 128 + 128 = b.toNat := by omega
  rw [e]; simp
/-- What is as long as its number's text, is that text. -/
theorem varN_val : ∀ {p : List UInt8} {b : UInt8}, (∀ x ∈ p, 128 ≤ x.toNat) → b.toNat < 128 → (varN (valB (p ++ [b]))).length = (p ++ [b]).length → varN (valB (p ++ [b])) = p ++ [b]
  | [], b, _, hb, _ => by
    have e : valB ([] ++ [b]) = b.toNat := by simp only [List.nil_append, valB]; omega
    rw [e]
    unfold varN
    rw [varI_lo (by omega), varL_lo (by omega)]
    simp
  | a :: p, b, hp, hb, hl => by
    have ha := hp a (by simp)
    have e : valB (a :: p ++ [b]) = a.toNat % 128 + 128 * valB (p ++ [b]) := rfl
    rw [e] at hl ⊢
    by_cases h : 127 < a.toNat % 128 + 128 * valB (p ++ [b])
    · have h1 : (a.toNat % 128 + 128 * valB (p ++ [b])) % 128 = a.toNat % 128 := by omega
      have h2 : (a.toNat % 128 + 128 * valB (p ++ [b])) / 128 = valB (p ++ [b]) := by omega
      have key : varN (a.toNat % 128 + 128 * valB (p ++ [b])) = a :: varN (valB (p ++ [b])) := by
        unfold varN
        rw [varI_hi h, varL_hi h, h1, h2, ofNat_hi ha]
        rfl
      rw [key] at hl ⊢
      simp only [List.cons_append, List.length_cons] at hl ⊢
      rw [varN_val (fun x hx => hp x (by simp [hx])) hb (by omega)]
    · exfalso
      unfold varN at hl
      rw [varI_lo h] at hl
      simp at hl
theorem bsA_extract {l : List UInt8} {a n : Nat} : (bsA l).extract a (a + n) = bsA ((l.drop a).take n) := by
  apply ByteArray.ext
  simp only [bsA, ByteArray.data_extract]
  rw [← Array.toList_inj]
  simp
theorem pow128 {j : Nat} (h : j ≤ 4) : 128 ^ j ≤ 268435456 := Nat.le_trans (Nat.pow_le_pow_right (by decide) h) (by decide)
theorem bshl {x : Int} {k : Nat} (h : k < 64) : bin .shl (.int .i64 x) (.int .i64 (k : Int)) = some (.int .i64 (IntKind.wrap .i64 (x * 2 ^ k))) := by
  have e : min ((k : Int)).toNat IntKind.i64.bits = k := by
    have : IntKind.i64.bits = 64 := by decide
    rw [this, Int.toNat_natCast]; omega
  have h0 : ¬ ((k : Int) < 0) := by omega
  simp only [bin, h0, if_false, e]
/-- The number at a place, the place behind it, whether there is one. -/
def rvR (a : Nat) : Option (List UInt8) → Int × Int × Bool
  | some bs => if valB bs ≤ 1000000000 ∧ (varN (valB bs)).length = bs.length then ((valB bs : Int), ((a + bs.length : Nat) : Int), true) else (0, 0, false)
  | none => (0, 0, false)
def rvF (l : List UInt8) (at_ : Int) : Int × Int × Bool := if 0 ≤ at_ ∧ at_ ≤ (l.length : Int) then rvR at_.toNat (scanB 5 (l.drop at_.toNat)) else (0, 0, false)
theorem scan_nil {n : Nat} : scanB n [] = none := by cases n <;> rfl
theorem drop_get {l : List UInt8} {i : Nat} (h : i < l.length) : l.drop i = l[i] :: l.drop (i + 1) := List.drop_eq_getElem_cons h
theorem take_snoc {l : List UInt8} {a j : Nat} (h : a + j < l.length) : (l.drop a).take (j + 1) = (l.drop a).take j ++ [l[a + j]] := by
  rw [List.take_succ_eq_append_getElem (by rw [List.length_drop]; omega)]
  simp
def rvOut (e : Nat) (a : Nat) (p : List UInt8) : Option (List UInt8) → Option (Ex × St)
  | some bs => some (.ret, ⟨[(4, .int .i64 (rvR a (some (p ++ bs))).1), (5, .int .i64 (rvR a (some (p ++ bs))).2.1), (6, .bool (rvR a (some (p ++ bs))).2.2)], []⟩)
  | none => some (.exit e, ⟨[], []⟩)
theorem rvOut_map {e a : Nat} {p : List UInt8} {b : UInt8} {o : Option (List UInt8)} : rvOut e a p (o.map (b :: ·)) = rvOut e a (p ++ [b]) o := by
  cases o with
  | none => rfl
  | some bs => simp only [Option.map_some, rvOut, List.append_assoc, List.singleton_append]
theorem bsA_of (t : ByteArray) : ∃ l, t = bsA l := ⟨t.data.toList, by apply ByteArray.ext; simp [bsA]⟩
def unsF (l : List UInt8) : List UInt8 × Bool := if 4 ≤ l.length ∧ l.length - 4 ≤ 20000 ∧ l.drop (l.length - 4) = fourF (sumF (l.take (l.length - 4)) 4294967295) then (l.take (l.length - 4), true) else ([], false)
theorem unsF_len {l : List UInt8} : (unsF l).1.length ≤ 20000 := by
  unfold unsF
  split
  · simp only [List.length_take]; omega
  · simp
theorem bsA_take {l : List UInt8} {n : Nat} : (bsA l).extract 0 n = bsA (l.take n) := by
  have := @bsA_extract l 0 n
  simpa using this
theorem bsA_drop {l : List UInt8} {n : Nat} : (bsA l).extract n l.length = bsA (l.drop n) := by
  apply ByteArray.ext
  simp only [bsA, ByteArray.data_extract]
  rw [← Array.toList_inj]
  simp
  rw [List.take_of_length_le (by simp)]
/-! names -/
def keysL : List ByteArray := [(⟨#[109, 111, 110, 105, 116, 111, 114]⟩ : ByteArray), (⟨#[118, 97, 114]⟩ : ByteArray), (⟨#[113, 117, 101, 117, 101]⟩ : ByteArray), (⟨#[101, 110, 116, 114, 121]⟩ : ByteArray), (⟨#[112, 114, 111, 99, 101, 115, 115]⟩ : ByteArray), (⟨#[117, 115, 101, 115]⟩ : ByteArray), (⟨#[98, 101, 103, 105, 110]⟩ : ByteArray), (⟨#[101, 110, 100]⟩ : ByteArray), (⟨#[105, 102]⟩ : ByteArray), (⟨#[116, 104, 101, 110]⟩ : ByteArray), (⟨#[101, 108, 115, 101]⟩ : ByteArray), (⟨#[119, 104, 105, 108, 101]⟩ : ByteArray), (⟨#[100, 111]⟩ : ByteArray), (⟨#[99, 97, 108, 108]⟩ : ByteArray), (⟨#[116, 111]⟩ : ByteArray), (⟨#[112, 114, 105, 110, 116]⟩ : ByteArray), (⟨#[114, 101, 97, 100]⟩ : ByteArray), (⟨#[100, 101, 108, 97, 121]⟩ : ByteArray), (⟨#[99, 111, 110, 116, 105, 110, 117, 101]⟩ : ByteArray), (⟨#[115, 107, 105, 112]⟩ : ByteArray), (⟨#[97, 110, 100]⟩ : ByteArray), (⟨#[111, 114]⟩ : ByteArray), (⟨#[110, 111, 116]⟩ : ByteArray)]
theorem keys_eq : [[AV.str ⟨#[109, 111, 110, 105, 116, 111, 114]⟩], [AV.str ⟨#[118, 97, 114]⟩], [AV.str ⟨#[113, 117, 101, 117, 101]⟩], [AV.str ⟨#[101, 110, 116, 114, 121]⟩], [AV.str ⟨#[112, 114, 111, 99, 101, 115, 115]⟩], [AV.str ⟨#[117, 115, 101, 115]⟩], [AV.str ⟨#[98, 101, 103, 105, 110]⟩], [AV.str ⟨#[101, 110, 100]⟩], [AV.str ⟨#[105, 102]⟩], [AV.str ⟨#[116, 104, 101, 110]⟩], [AV.str ⟨#[101, 108, 115, 101]⟩], [AV.str ⟨#[119, 104, 105, 108, 101]⟩], [AV.str ⟨#[100, 111]⟩], [AV.str ⟨#[99, 97, 108, 108]⟩], [AV.str ⟨#[116, 111]⟩], [AV.str ⟨#[112, 114, 105, 110, 116]⟩], [AV.str ⟨#[114, 101, 97, 100]⟩], [AV.str ⟨#[100, 101, 108, 97, 121]⟩], [AV.str ⟨#[99, 111, 110, 116, 105, 110, 117, 101]⟩], [AV.str ⟨#[115, 107, 105, 112]⟩], [AV.str ⟨#[97, 110, 100]⟩], [AV.str ⟨#[111, 114]⟩], [AV.str ⟨#[110, 111, 116]⟩]] = keysL.map cS := rfl
theorem keys_len : keysL.length = 23 := rfl
def memS (s : ByteArray) : List ByteArray → Bool
  | [] => false
  | y :: ys => decide (s = y) || memS s ys
def letB (b : UInt8) : Bool := decide (97 ≤ b.toNat) && decide (b.toNat ≤ 122)
def nameF (l : List UInt8) : Bool := l.all letB && (decide (1 ≤ (l.length : Int) ∧ (l.length : Int) ≤ 8) && !memS (bsA l) keysL)
def nameOkF (s : ByteArray) : Bool := nameF s.data.toList
theorem nameOkF_bsA {l : List UInt8} : nameOkF (bsA l) = nameF l := by simp [nameOkF, bsA]
theorem sem_spec_l04Keys : S_spec_l04Keys.sem [] = some (.tree 1 (keysL.map cS), []) := by
  rw [sg_spec_l04Keys, sem_go, ← keys_eq]
  simp (maxSteps := 10000000) (disch := first | assumption | omega) only [F_spec_l04Keys, params, EG, EL, ↓reduceIte, Nat.reduceEqDiff, Nat.reduceAdd, Nat.reduceSub, Nat.reduceMul, Nat.reduceLeDiff, Nat.reduceLT, Int.reduceLT, Int.reduceLE, Int.reduceEq, Int.reduceToNat, reduceCtorEq, FB, ED, FT, cx_spec_l04Keys]
  first | done | rfl
theorem sem_spec_KeyWord (s : ByteArray) : S_spec_KeyWord.sem [.str s] = some (.bool (memS s keysL), []) := by
  have loop : ∀ xs : List ByteArray, xs.length ≤ 1000 → loopV X_spec_KeyWord 0 [0, 3, 4] [(1, []), (0, [2])] B0_spec_KeyWord ⟨[(0, .str s), (3, .sl ⟨0, none, 0⟩ 1 0 xs.length), (4, .int .i64 0)], [some ⟨false, 0, 1, xs.map cS⟩]⟩ = if memS s xs = true then some (.ret, ⟨[(2, .bool true)], []⟩) else some (.exit 0, ⟨[], []⟩) := by
    intro xs hxs
    refine loop_list xs (fun _ (_ : Unit) => True) (fun i _ => ⟨[(0, .str s), (3, .sl ⟨0, none, 0⟩ 1 0 xs.length), (4, .int .i64 (i : Int))], [some ⟨false, 0, 1, xs.map cS⟩]⟩) (fun rest _ => if memS s rest = true then some (.ret, ⟨[(2, .bool true)], []⟩) else some (.exit 0, ⟨[], []⟩)) ?_ ?_ () trivial
    · intro _ _
      rw [loopV_by B0_spec_KeyWord.eq_1]
      simp only [EG, EL, ↓reduceIte, Nat.reduceEqDiff, Nat.reduceAdd, Nat.reduceSub, Nat.reduceMul, Nat.reduceLeDiff, Nat.reduceLT, Int.reduceLT, Int.reduceLE, Int.reduceEq, Int.reduceToNat, reduceCtorEq, FB, int_lt_irrefl, memS]
    · rintro i h y rest _ rfl rfl _ ih
      have hi : (i : Int) < (xs.length : Int) := by omega
      have hg := getRow cS xs h
      have i1 := ih () trivial
      rw [loopV_by B0_spec_KeyWord.eq_1]
      generalize xs[i] = y at hg ⊢
      by_cases h1 : y = s
      · have h1' : (y = s) = True := eq_true h1
        have h2 : memS s (y :: List.drop (i + 1) xs) = true := by simp [memS, h1]
        simp (maxSteps := 10000000) (disch := first | assumption | omega) only [EG, EL, ↓reduceIte, Nat.reduceEqDiff, Nat.reduceAdd, Nat.reduceSub, Nat.reduceMul, Nat.reduceLeDiff, Nat.reduceLT, Int.reduceLT, Int.reduceLE, Int.reduceEq, Int.reduceToNat, reduceCtorEq, FB, hi, h, wrap_succ, hg, h1', h2]
      · have h1' : (y = s) = False := eq_false h1
        have h2 : memS s (y :: List.drop (i + 1) xs) = memS s (List.drop (i + 1) xs) := by
          have : ¬ s = y := fun e => h1 e.symm
          simp [memS, this]
        simp (maxSteps := 10000000) (disch := first | assumption | omega) only [EG, EL, ↓reduceIte, Nat.reduceEqDiff, Nat.reduceAdd, Nat.reduceSub, Nat.reduceMul, Nat.reduceLeDiff, Nat.reduceLT, Int.reduceLT, Int.reduceLE, Int.reduceEq, Int.reduceToNat, reduceCtorEq, FB, hi, h, wrap_succ, hg, h1', h2, i1]
  have l := loop keysL (by decide)
  rw [sg_spec_KeyWord, sem_go]
  simp (maxSteps := 10000000) (disch := first | assumption | omega) only [F_spec_KeyWord, params, EG, EL, ↓reduceIte, Nat.reduceEqDiff, Nat.reduceAdd, Nat.reduceSub, Nat.reduceMul, Nat.reduceLeDiff, Nat.reduceLT, Int.reduceLT, Int.reduceLE, Int.reduceEq, Int.reduceToNat, reduceCtorEq, FB, cx_spec_KeyWord, cl_spec_l04Keys, sem_spec_l04Keys, l]
  cases h : memS s keysL <;> simp only [EG, EL, ↓reduceIte, Nat.reduceEqDiff, Nat.reduceAdd, Nat.reduceSub, Nat.reduceMul, Nat.reduceLeDiff, Nat.reduceLT, Int.reduceLT, Int.reduceLE, Int.reduceEq, Int.reduceToNat, reduceCtorEq, FB]
theorem sem_slices_Index_string_string (xs : List ByteArray) (x : ByteArray) (hl : xs.length ≤ 140737488351232) : S_slices_Index_string_string.sem [.tree 1 (xs.map cS), .str x] = some (.int .i64 (fIx (fun y => decide (x = y)) xs 0), []) := by
  have loop : loopV X_slices_Index_string_string 0 [0, 1, 7, 8] [(1, []), (0, [4])] B0_slices_Index_string_string ⟨[(0, .tree 1 (xs.map cS)), (1, .str x), (7, .int .i64 xs.length), (8, .int .i64 0)], []⟩ = fixR 4 (fIx (fun y => decide (x = y)) xs 0) := by
    refine loop_list xs (fun i a => a = i) (fun i a => ⟨[(0, .tree 1 (xs.map cS)), (1, .str x), (7, .int .i64 xs.length), (8, .int .i64 (i : Int))], []⟩) (fun rest a => fixR 4 (fIx (fun y => decide (x = y)) rest a)) ?_ ?_ 0 rfl
    · rintro a rfl
      rw [loopV_by B0_slices_Index_string_string.eq_1]
      simp only [EG, EL, ↓reduceIte, Nat.reduceEqDiff, Nat.reduceAdd, Nat.reduceSub, Nat.reduceMul, Nat.reduceLeDiff, Nat.reduceLT, Int.reduceLT, Int.reduceLE, Int.reduceEq, Int.reduceToNat, reduceCtorEq, FB, int_lt_irrefl]
      exact fixR_nil
    · rintro i h y rest a rfl rfl rfl ih
      have hi : (a : Int) < (xs.length : Int) := by omega
      have hg := getRow cS xs h
      have i1 := ih _ rfl
      rw [loopV_by B0_slices_Index_string_string.eq_1]
      generalize xs[a] = y at hg ⊢
      by_cases h1 : x = y
      · have h1' : (x = y) = True := eq_true h1
        simp (maxSteps := 10000000) (disch := first | assumption | omega) only [EG, EL, ↓reduceIte, Nat.reduceEqDiff, Nat.reduceAdd, Nat.reduceSub, Nat.reduceMul, Nat.reduceLeDiff, Nat.reduceLT, Int.reduceLT, Int.reduceLE, Int.reduceEq, Int.reduceToNat, reduceCtorEq, FB, hi, h, wrap_succ, hg, h1', i1]
        exact fixR_yes (by simp [h1])
      · have h1' : (x = y) = False := eq_false h1
        simp (maxSteps := 10000000) (disch := first | assumption | omega) only [EG, EL, ↓reduceIte, Nat.reduceEqDiff, Nat.reduceAdd, Nat.reduceSub, Nat.reduceMul, Nat.reduceLeDiff, Nat.reduceLT, Int.reduceLT, Int.reduceLE, Int.reduceEq, Int.reduceToNat, reduceCtorEq, FB, hi, h, wrap_succ, hg, h1', i1]
        exact fixR_no (by simp [h1])
  rw [sg_slices_Index_string_string, sem_go]
  simp (maxSteps := 10000000) (disch := first | assumption | omega) only [F_slices_Index_string_string, params, EG, EL, ↓reduceIte, Nat.reduceEqDiff, Nat.reduceAdd, Nat.reduceSub, Nat.reduceMul, Nat.reduceLeDiff, Nat.reduceLT, Int.reduceLT, Int.reduceLE, Int.reduceEq, Int.reduceToNat, reduceCtorEq, FB, loop, goE_fixR]
  rcases @fIx_ge _ (fun y => decide (x = y)) xs 0 with h | h
  · simp [h]
  · rw [if_neg (by omega)]
theorem mem_fIxS {xs : List ByteArray} {x : ByteArray} : ∀ {i : Nat}, decide (0 ≤ fIx (fun y => decide (x = y)) xs i) = memS x xs := by
  induction xs with
  | nil => intro i; simp [fIx, memS]
  | cons y ys ih =>
    intro i
    by_cases h : x = y
    · subst h; simp [fIx, memS]
    · simp only [fIx, memS, h, decide_false, Bool.false_eq_true, if_false, ih, Bool.false_or]
theorem sem_slices_Contains_string_string (xs : List ByteArray) (x : ByteArray) (hl : xs.length ≤ 140737488351232) : S_slices_Contains_string_string.sem [.tree 1 (xs.map cS), .str x] = some (.bool (memS x xs), []) := by
  rw [sg_slices_Contains_string_string, sem_go]
  simp (maxSteps := 10000000) (disch := first | assumption | omega) only [F_slices_Contains_string_string, params, EG, EL, ↓reduceIte, Nat.reduceEqDiff, Nat.reduceAdd, Nat.reduceSub, Nat.reduceMul, Nat.reduceLeDiff, Nat.reduceLT, Int.reduceLT, Int.reduceLE, Int.reduceEq, Int.reduceToNat, reduceCtorEq, FB, cx_slices_Contains_string_string, cl_slices_Index_string_string, sem_slices_Index_string_string, mem_fIxS]
theorem sem_impl_KeyWord (s : ByteArray) : S_impl_KeyWord.sem [.str s] = some (.bool (memS s keysL), []) := by
  have hk := sem_slices_Contains_string_string keysL s (by decide)
  have hsg : seg (keysL.map cS) 0 23 = keysL.map cS := rfl
  have hsl : solid (keysL.map cS) = true := solid_map fun _ => rfl
  have hln : (keysL.map cS).length = 23 := rfl
  rw [sg_impl_KeyWord, sem_go]
  simp (maxSteps := 10000000) (disch := first | assumption | omega) only [F_impl_KeyWord, params, EG, EL, ↓reduceIte, Nat.reduceEqDiff, Nat.reduceAdd, Nat.reduceSub, Nat.reduceMul, Nat.reduceLeDiff, Nat.reduceLT, Int.reduceLT, Int.reduceLE, Int.reduceEq, Int.reduceToNat, reduceCtorEq, FB, ED, FT, cx_impl_KeyWord, cl_slices_Contains_string_string, keys_eq, hsg, hsl, hln, hk]
theorem loop_spec_NameOk (l : List UInt8) (hl : l.length ≤ 140737488351232) : loopV X_spec_NameOk 0 [0, 3] [(1, [0]), (0, [2])] B0_spec_NameOk ⟨[(0, .str (bsA l)), (3, .int .i64 0)], []⟩ = okR (l.all letB) 0 ⟨[(0, .str (bsA l))], []⟩ 2 := by
  refine loop_list l (fun _ (_ : Unit) => True) (fun i _ => ⟨[(0, .str (bsA l)), (3, .int .i64 ((i : Nat) : Int))], []⟩) (fun rest _ => okR (rest.all letB) 0 ⟨[(0, .str (bsA l))], []⟩ 2) ?_ ?_ () trivial
  · intro _ _
    rw [loopV_by B0_spec_NameOk.eq_1]
    simp only [EG, EL, ↓reduceIte, Nat.reduceEqDiff, Nat.reduceAdd, Nat.reduceSub, Nat.reduceMul, Nat.reduceLeDiff, Nat.reduceLT, Int.reduceLT, Int.reduceLE, Int.reduceEq, Int.reduceToNat, reduceCtorEq, FB, bsA_size, int_lt_irrefl, List.all_nil, okR_true]
  · rintro i h y rest _ rfl rfl _ ih
    have hi : (i : Int) < (l.length : Int) := by omega
    have hg := bsA_get h
    have i1 := ih () trivial
    rw [loopV_by B0_spec_NameOk.eq_1, List.all_cons]
    generalize l[i] = b at hg ⊢
    unfold letB
    by_cases h1 : 97 ≤ b.toNat
    · have h1' : ¬ ((b.toNat : Nat) : Int) < 97 := by omega
      by_cases h2 : b.toNat ≤ 122
      · have h2' : ¬ (122 : Int) < ((b.toNat : Nat) : Int) := by omega
        simp (maxSteps := 10000000) (disch := first | assumption | omega) only [EG, EL, ↓reduceIte, Nat.reduceEqDiff, Nat.reduceAdd, Nat.reduceSub, Nat.reduceMul, Nat.reduceLeDiff, Nat.reduceLT, Int.reduceLT, Int.reduceLE, Int.reduceEq, Int.reduceToNat, reduceCtorEq, FB, bsA_size, hi, h, hg, h1, h1', h2, h2', gt_iff_lt, wrap_succ, i1, decide_true, decide_false, Bool.true_and]
        rfl
      · have h2' : (122 : Int) < ((b.toNat : Nat) : Int) := by omega
        simp (maxSteps := 10000000) (disch := first | assumption | omega) only [EG, EL, ↓reduceIte, Nat.reduceEqDiff, Nat.reduceAdd, Nat.reduceSub, Nat.reduceMul, Nat.reduceLeDiff, Nat.reduceLT, Int.reduceLT, Int.reduceLE, Int.reduceEq, Int.reduceToNat, reduceCtorEq, FB, bsA_size, hi, h, hg, h1, h1', h2, h2', gt_iff_lt, wrap_succ, decide_true, decide_false, Bool.true_and, Bool.false_and, okR_false]
    · have h1' : ((b.toNat : Nat) : Int) < 97 := by omega
      simp (maxSteps := 10000000) (disch := first | assumption | omega) only [EG, EL, ↓reduceIte, Nat.reduceEqDiff, Nat.reduceAdd, Nat.reduceSub, Nat.reduceMul, Nat.reduceLeDiff, Nat.reduceLT, Int.reduceLT, Int.reduceLE, Int.reduceEq, Int.reduceToNat, reduceCtorEq, FB, bsA_size, hi, h, hg, h1, h1', wrap_succ, decide_true, decide_false, Bool.false_and, okR_false]
theorem sem_spec_NameOk (s : ByteArray) (hs : s.size ≤ 140737488351232) : S_spec_NameOk.sem [.str s] = some (.bool (nameOkF s), []) := by
  obtain ⟨l, rfl⟩ := bsA_of s
  rw [bsA_size] at hs
  have lp := loop_spec_NameOk l hs
  rw [sg_spec_NameOk, sem_go, nameOkF_bsA]
  unfold nameF
  cases ha : l.all letB
  · rw [ha, okR_false] at lp
    simp (maxSteps := 10000000) (disch := first | assumption | omega) only [F_spec_NameOk, params, EG, EL, ↓reduceIte, Nat.reduceEqDiff, Nat.reduceAdd, Nat.reduceSub, Nat.reduceMul, Nat.reduceLeDiff, Nat.reduceLT, Int.reduceLT, Int.reduceLE, Int.reduceEq, Int.reduceToNat, reduceCtorEq, FB, ED, FT, cx_spec_NameOk, lp, Bool.false_and]
  · rw [ha, okR_true] at lp
    by_cases h1 : 1 ≤ (l.length : Int) ∧ (l.length : Int) ≤ 8
    all_goals simp (maxSteps := 10000000) (disch := first | assumption | omega) only [F_spec_NameOk, params, EG, EL, ↓reduceIte, Nat.reduceEqDiff, Nat.reduceAdd, Nat.reduceSub, Nat.reduceMul, Nat.reduceLeDiff, Nat.reduceLT, Int.reduceLT, Int.reduceLE, Int.reduceEq, Int.reduceToNat, reduceCtorEq, FB, ED, FT, cx_spec_NameOk, bsA_size, lp, cl_spec_l01In, sem_spec_l01In, cl_spec_KeyWord, sem_spec_KeyWord, h1, decide_true, decide_false, Bool.true_and, Bool.false_and]
theorem sem_impl_letter (b : UInt8) : S_impl_letter.sem [.int .u8 (b.toNat : Int)] = some (.bool (letB b), []) := by
  rw [sg_impl_letter, sem_go]
  unfold letB
  by_cases h1 : 97 ≤ b.toNat
  · have h1' : (97 : Int) ≤ ((b.toNat : Nat) : Int) := by omega
    by_cases h2 : b.toNat ≤ 122
    · have h2' : ((b.toNat : Nat) : Int) ≤ 122 := by omega
      simp (maxSteps := 10000000) (disch := first | assumption | omega) only [F_impl_letter, params, EG, EL, ↓reduceIte, Nat.reduceEqDiff, Nat.reduceAdd, Nat.reduceSub, Nat.reduceMul, Nat.reduceLeDiff, Nat.reduceLT, Int.reduceLT, Int.reduceLE, Int.reduceEq, Int.reduceToNat, reduceCtorEq, FB, ED, FT, cx_impl_letter, ge_iff_le, h1, h1', h2, h2', decide_true, decide_false, Bool.true_and]
    · have h2' : ¬ ((b.toNat : Nat) : Int) ≤ 122 := by omega
      simp (maxSteps := 10000000) (disch := first | assumption | omega) only [F_impl_letter, params, EG, EL, ↓reduceIte, Nat.reduceEqDiff, Nat.reduceAdd, Nat.reduceSub, Nat.reduceMul, Nat.reduceLeDiff, Nat.reduceLT, Int.reduceLT, Int.reduceLE, Int.reduceEq, Int.reduceToNat, reduceCtorEq, FB, ED, FT, cx_impl_letter, ge_iff_le, h1, h1', h2, h2', decide_true, decide_false, Bool.true_and]
  · have h1' : ¬ (97 : Int) ≤ ((b.toNat : Nat) : Int) := by omega
    simp (maxSteps := 10000000) (disch := first | assumption | omega) only [F_impl_letter, params, EG, EL, ↓reduceIte, Nat.reduceEqDiff, Nat.reduceAdd, Nat.reduceSub, Nat.reduceMul, Nat.reduceLeDiff, Nat.reduceLT, Int.reduceLT, Int.reduceLE, Int.reduceEq, Int.reduceToNat, reduceCtorEq, FB, ED, FT, cx_impl_letter, ge_iff_le, h1, h1', decide_true, decide_false, Bool.false_and]
def leadN (l : List UInt8) : Nat := (l.takeWhile letB).length
theorem leadN_all {l : List UInt8} : (leadN l = l.length) ↔ l.all letB = true := by
  unfold leadN
  induction l with
  | nil => simp
  | cons b l ih =>
    cases hb : letB b
    · simp [hb]
    · simp [hb, ← ih]
theorem sem_impl_run (l : List UInt8) (hl : l.length ≤ 140737488351232) : S_impl_run.sem [.str (bsA l), .int .i64 0, .fn 164 []] = some (.int .i64 (leadN l : Int), []) := by
  have loop : loopV X_impl_run 0 [0, 1, 2] [(1, [1])] B0_impl_run ⟨[(0, .str (bsA l)), (1, .int .i64 0), (2, .fn 164 [])], []⟩ = some (.exit 0, ⟨[(1, .int .i64 ((0 + leadN l : Nat) : Int))], []⟩) := by
    refine loop_list l (fun i (a : Nat) => a = i) (fun i a => ⟨[(0, .str (bsA l)), (1, .int .i64 ((i : Nat) : Int)), (2, .fn 164 [])], []⟩) (fun rest a => some (.exit 0, ⟨[(1, .int .i64 ((a + leadN rest : Nat) : Int))], []⟩)) ?_ ?_ 0 rfl
    · rintro a rfl
      rw [loopV_by B0_impl_run.eq_1]
      simp only [EG, EL, ↓reduceIte, Nat.reduceEqDiff, Nat.reduceAdd, Nat.reduceSub, Nat.reduceMul, Nat.reduceLeDiff, Nat.reduceLT, Int.reduceLT, Int.reduceLE, Int.reduceEq, Int.reduceToNat, reduceCtorEq, FB, bsA_size, int_lt_irrefl]
      simp [leadN]
    · rintro i h y rest a rfl rfl rfl ih
      have hi : (a : Int) < (l.length : Int) := by omega
      have hg := bsA_get h
      have i1 := ih (a + 1) rfl
      rw [loopV_by B0_impl_run.eq_1]
      generalize l[a] = b at hg ⊢
      cases hb : letB b
      · have e : leadN (b :: List.drop (a + 1) l) = 0 := by simp [leadN, hb]
        simp (maxSteps := 10000000) (disch := first | assumption | omega) only [EG, EL, ↓reduceIte, Nat.reduceEqDiff, Nat.reduceAdd, Nat.reduceSub, Nat.reduceMul, Nat.reduceLeDiff, Nat.reduceLT, Int.reduceLT, Int.reduceLE, Int.reduceEq, Int.reduceToNat, reduceCtorEq, FB, bsA_size, hi, h, hg, cx_impl_run, cl_impl_letter, sem_impl_letter, hb, wrap_succ, e]
      · have e : a + leadN (b :: List.drop (a + 1) l) = a + 1 + leadN (List.drop (a + 1) l) := by simp [leadN, hb]; omega
        simp (maxSteps := 10000000) (disch := first | assumption | omega) only [EG, EL, ↓reduceIte, Nat.reduceEqDiff, Nat.reduceAdd, Nat.reduceSub, Nat.reduceMul, Nat.reduceLeDiff, Nat.reduceLT, Int.reduceLT, Int.reduceLE, Int.reduceEq, Int.reduceToNat, reduceCtorEq, FB, bsA_size, hi, h, hg, cx_impl_run, cl_impl_letter, sem_impl_letter, hb, wrap_succ, e, i1]
  rw [Nat.zero_add] at loop
  rw [sg_impl_run, sem_go]
  simp (maxSteps := 10000000) (disch := first | assumption | omega) only [F_impl_run, params, EG, EL, ↓reduceIte, Nat.reduceEqDiff, Nat.reduceAdd, Nat.reduceSub, Nat.reduceMul, Nat.reduceLeDiff, Nat.reduceLT, Int.reduceLT, Int.reduceLE, Int.reduceEq, Int.reduceToNat, reduceCtorEq, FB, ED, FT, cx_impl_run, loop]
theorem sem_impl_NameOk (s : ByteArray) (hs : s.size ≤ 140737488351232) : S_impl_NameOk.sem [.str s] = some (.bool (nameOkF s), []) := by
  obtain ⟨l, rfl⟩ := bsA_of s
  rw [bsA_size] at hs
  have hr := sem_impl_run l hs
  rw [sg_impl_NameOk, sem_go, nameOkF_bsA]
  unfold nameF
  by_cases h1 : 1 ≤ (l.length : Int) ∧ (l.length : Int) ≤ 8
  · cases ha : l.all letB
    · have h2 : ((leadN l : Int) = (l.length : Int)) = False := eq_false fun e => by
        have := leadN_all.1 (show leadN l = l.length by omega)
        rw [ha] at this; cases this
      simp (maxSteps := 10000000) (disch := first | assumption | omega) only [F_impl_NameOk, params, EG, EL, ↓reduceIte, Nat.reduceEqDiff, Nat.reduceAdd, Nat.reduceSub, Nat.reduceMul, Nat.reduceLeDiff, Nat.reduceLT, Int.reduceLT, Int.reduceLE, Int.reduceEq, Int.reduceToNat, reduceCtorEq, FB, ED, FT, cx_impl_NameOk, bsA_size, cl_impl_within, sem_impl_within, cl_impl_run, hr, cl_impl_KeyWord, sem_impl_KeyWord, h1, h2, decide_true, decide_false, Bool.true_and, Bool.false_and]
    · have h2 : ((leadN l : Int) = (l.length : Int)) = True := eq_true (by rw [leadN_all.2 ha])
      simp (maxSteps := 10000000) (disch := first | assumption | omega) only [F_impl_NameOk, params, EG, EL, ↓reduceIte, Nat.reduceEqDiff, Nat.reduceAdd, Nat.reduceSub, Nat.reduceMul, Nat.reduceLeDiff, Nat.reduceLT, Int.reduceLT, Int.reduceLE, Int.reduceEq, Int.reduceToNat, reduceCtorEq, FB, ED, FT, cx_impl_NameOk, bsA_size, cl_impl_within, sem_impl_within, cl_impl_run, hr, cl_impl_KeyWord, sem_impl_KeyWord, h1, h2, decide_true, decide_false, Bool.true_and, Bool.false_and]
  · simp (maxSteps := 10000000) (disch := first | assumption | omega) only [F_impl_NameOk, params, EG, EL, ↓reduceIte, Nat.reduceEqDiff, Nat.reduceAdd, Nat.reduceSub, Nat.reduceMul, Nat.reduceLeDiff, Nat.reduceLT, Int.reduceLT, Int.reduceLE, Int.reduceEq, Int.reduceToNat, reduceCtorEq, FB, ED, FT, cx_impl_NameOk, bsA_size, cl_impl_within, sem_impl_within, h1, decide_true, decide_false, Bool.true_and, Bool.false_and, Bool.and_false]
/-! nodes -/
def node0 : DNode := ⟨0, 0, ⟨#[]⟩, ⟨#[]⟩, ⟨#[]⟩, []⟩
def ndF (ns : List DNode) (k : Nat) : DNode := ns.getD k node0
theorem getRowN (ns : List DNode) {k : Nat} (h : k < ns.length) : (ns.map cNode).getD k [] = [.int .i64 (ndF ns k).Kind, .int .i64 (ndF ns k).Num, .str (ndF ns k).Name, .str (ndF ns k).More, .str (ndF ns k).To, .tree 1 ((ndF ns k).Kids.map cI)] := by
  rw [getRow cNode ns h]; simp [ndF, h]
theorem getRowI (xs : List Int) {i : Nat} (h : i < xs.length) : (xs.map cI).getD i [] = cI (xs.getD i 0) := by
  rw [getRow cI xs h]; simp [h]
def isValK (k : Int) : Bool := decide (1 ≤ k ∧ k ≤ 5)
def isStmK (k : Int) : Bool := decide (11 ≤ k ∧ k ≤ 19)
def isBlkK (k : Int) : Bool := decide (k = 20)
def kidK (ns : List DNode) (k : Nat) (x : Int) : Int := if 0 ≤ x ∧ x ≤ (k : Int) - 1 then (ndF ns x.toNat).Kind else 0
def valsB (ns : List DNode) (k : Nat) (xs : List Int) : Bool := xs.all fun x => isValK (kidK ns k x)
def blksB (ns : List DNode) (k : Nat) (xs : List Int) : Bool := xs.all fun x => isBlkK (kidK ns k x)
def stmsB (ns : List DNode) (k : Nat) (xs : List Int) : Bool := xs.all fun x => isStmK (kidK ns k x)
def kidsF (ns : List DNode) (k : Nat) (kind : Int) (xs : List Int) : Bool :=
  if kind = 1 ∨ kind = 2 ∨ kind = 16 ∨ kind = 17 ∨ kind = 18 ∨ kind = 19 then decide (xs.length = 0)
  else if kind = 3 then decide (xs.length = 2) && valsB ns k (xs.take 2)
  else if kind = 4 ∨ kind = 5 ∨ kind = 11 ∨ kind = 14 ∨ kind = 15 then decide (xs.length = 1) && valsB ns k (xs.take 1)
  else if kind = 12 then decide (xs.length = 2 ∨ xs.length = 3) && (valsB ns k (xs.take 1) && blksB ns k (xs.drop 1))
  else if kind = 13 then decide (xs.length = 2) && (valsB ns k (xs.take 1) && blksB ns k (xs.drop 1))
  else stmsB ns k xs && decide (1 ≤ (xs.length : Int) ∧ (xs.length : Int) ≤ 12)
def okName (kind : Int) : Bool := decide (kind = 2 ∨ kind = 11 ∨ kind = 16 ∨ kind = 17 ∨ kind = 18 ∨ kind = 14)
def emptyS (s : ByteArray) : Bool := decide (s = ⟨#[]⟩)
def namesB (x : DNode) : Bool :=
  (if okName x.Kind = true then nameOkF x.Name else emptyS x.Name) && ((if x.Kind = 14 then nameOkF x.More && (emptyS x.To || nameOkF x.To) else emptyS x.More && emptyS x.To) && (if x.Kind = 1 then decide (0 ≤ x.Num ∧ x.Num ≤ 1000000) else if x.Kind = 3 then decide (1 ≤ x.Num ∧ x.Num ≤ 9) else decide (x.Num = 0)))
def kindB (k : Int) : Bool := isValK k || (isStmK k || isBlkK k)
def freshL : List Int → List Int → Bool
  | _, [] => true
  | seen, x :: r => decide (x ∉ seen) && freshL (seen ++ [x]) r
def nodeB (ns : List DNode) (k : Nat) : Bool := freshL [] (ndF ns k).Kids && (kindB (ndF ns k).Kind && (kidsF ns k (ndF ns k).Kind (ndF ns k).Kids && namesB (ndF ns k)))
def nodeOkF (ns : List DNode) (k : Int) : Bool := decide (0 ≤ k ∧ k ≤ (ns.length : Int) - 1) && nodeB ns k.toNat
def gdN (p : DProgram) : Prop := p.Nodes.length ≤ 1099511627776 ∧ ∀ x ∈ p.Nodes, x.Kids.length ≤ 1099511627776 ∧ (x.Name.size ≤ 140737488351232 ∧ x.More.size ≤ 140737488351232 ∧ x.To.size ≤ 140737488351232)
theorem gdN_get {p : DProgram} (h : gdN p) {k : Nat} (hk : k < p.Nodes.length) : (ndF p.Nodes k).Kids.length ≤ 1099511627776 ∧ ((ndF p.Nodes k).Name.size ≤ 140737488351232 ∧ (ndF p.Nodes k).More.size ≤ 140737488351232 ∧ (ndF p.Nodes k).To.size ≤ 140737488351232) := by
  have : ndF p.Nodes k = p.Nodes[k] := by simp [ndF, hk]
  rw [this]; exact h.2 _ (List.getElem_mem hk)
theorem sem_spec_l05Value (k : Int) : S_spec_l05Value.sem [.int .i64 k] = some (.bool (isValK k), []) := by
  rw [sg_spec_l05Value, sem_go]
  simp (maxSteps := 10000000) (disch := first | assumption | omega) only [F_spec_l05Value, params, EG, EL, ↓reduceIte, Nat.reduceEqDiff, Nat.reduceAdd, Nat.reduceSub, Nat.reduceMul, Nat.reduceLeDiff, Nat.reduceLT, Int.reduceLT, Int.reduceLE, Int.reduceEq, Int.reduceToNat, reduceCtorEq, FB, ED, FT, cx_spec_l05Value, cl_spec_l01In, sem_spec_l01In, isValK]
theorem sem_spec_l05Statement (k : Int) : S_spec_l05Statement.sem [.int .i64 k] = some (.bool (isStmK k), []) := by
  rw [sg_spec_l05Statement, sem_go]
  simp (maxSteps := 10000000) (disch := first | assumption | omega) only [F_spec_l05Statement, params, EG, EL, ↓reduceIte, Nat.reduceEqDiff, Nat.reduceAdd, Nat.reduceSub, Nat.reduceMul, Nat.reduceLeDiff, Nat.reduceLT, Int.reduceLT, Int.reduceLE, Int.reduceEq, Int.reduceToNat, reduceCtorEq, FB, ED, FT, cx_spec_l05Statement, cl_spec_l01In, sem_spec_l01In, isStmK]
theorem sem_spec_l05Kid (p : DProgram) (hp : gdN p) (k i : Nat) (hk : k < p.Nodes.length) (hi : i < (ndF p.Nodes k).Kids.length) : S_spec_l05Kid.sem [.agg (cProgram p), .int .i64 (k : Int), .int .i64 (i : Int)] = some (.int .i64 (kidK p.Nodes k ((ndF p.Nodes k).Kids.getD i 0)), []) := by
  have h0 := hp.1
  have hk' : (k : Int) < (p.Nodes.length : Int) := by omega
  have hg := getRowN p.Nodes hk
  have hi' : (i : Int) < ((ndF p.Nodes k).Kids.length : Int) := by omega
  have hgi := getRowI (ndF p.Nodes k).Kids hi
  have hw : IntKind.wrap .i64 ((k : Int) - 1) = (k : Int) - 1 := wrapI (by omega) (by omega)
  generalize (ndF p.Nodes k).Kids.getD i 0 = x at hgi ⊢
  rw [sg_spec_l05Kid, sem_go]
  unfold kidK
  by_cases h : 0 ≤ x ∧ x ≤ (k : Int) - 1
  · obtain ⟨n, rfl⟩ : ∃ n : Nat, x = (n : Int) := ⟨x.toNat, by omega⟩
    have hn : n < p.Nodes.length := by omega
    have hn' : (n : Int) < (p.Nodes.length : Int) := by omega
    have hgn := getRowN p.Nodes hn
    simp (maxSteps := 10000000) (disch := first | assumption | omega) only [cProgram, F_spec_l05Kid, params, EG, EL, ↓reduceIte, Nat.reduceEqDiff, Nat.reduceAdd, Nat.reduceSub, Nat.reduceMul, Nat.reduceLeDiff, Nat.reduceLT, Int.reduceLT, Int.reduceLE, Int.reduceEq, Int.reduceToNat, reduceCtorEq, FB, ED, FT, cx_spec_l05Kid, cl_spec_l01In, sem_spec_l01In, hk, hk', hg, hi, hi', hgi, hw, h, hn, hn', hgn, decide_true, decide_false]
  · simp (maxSteps := 10000000) (disch := first | assumption | omega) only [cProgram, F_spec_l05Kid, params, EG, EL, ↓reduceIte, Nat.reduceEqDiff, Nat.reduceAdd, Nat.reduceSub, Nat.reduceMul, Nat.reduceLeDiff, Nat.reduceLT, Int.reduceLT, Int.reduceLE, Int.reduceEq, Int.reduceToNat, reduceCtorEq, FB, ED, FT, cx_spec_l05Kid, cl_spec_l01In, sem_spec_l01In, hk, hk', hg, hi, hi', hgi, hw, h, decide_true, decide_false]
theorem sem_spec_l05Values (p : DProgram) (hp : gdN p) (k n : Nat) (hk : k < p.Nodes.length) (hn : n ≤ (ndF p.Nodes k).Kids.length) : S_spec_l05Values.sem [.agg (cProgram p), .int .i64 (k : Int), .int .i64 (n : Int)] = some (.bool (valsB p.Nodes k ((ndF p.Nodes k).Kids.take n)), []) := by
  have hlen : ((ndF p.Nodes k).Kids.take n).length = n := by rw [List.length_take]; omega
  have hkl := (gdN_get hp hk).1
  have loop : loopV X_spec_l05Values 0 [1, 2, 3, 7] [(1, []), (0, [6])] B0_spec_l05Values ⟨[(1, .int .i64 (k : Int)), (2, .int .i64 (n : Int)), (3, .ptr ⟨0, none, 0⟩ 3 0 0), (7, .int .i64 0)], [some ⟨true, 0, 3, [[.tree 6 (p.Nodes.map cNode), .tree 4 (p.Monitors.map cMonitor), .tree 4 (p.Processes.map cProcess)]]⟩]⟩ = okR (valsB p.Nodes k ((ndF p.Nodes k).Kids.take n)) 0 ⟨[], []⟩ 6 := by
    refine loop_list ((ndF p.Nodes k).Kids.take n) (fun _ (_ : Unit) => True) (fun i _ => ⟨[(1, .int .i64 (k : Int)), (2, .int .i64 (n : Int)), (3, .ptr ⟨0, none, 0⟩ 3 0 0), (7, .int .i64 ((i : Nat) : Int))], [some ⟨true, 0, 3, [[.tree 6 (p.Nodes.map cNode), .tree 4 (p.Monitors.map cMonitor), .tree 4 (p.Processes.map cProcess)]]⟩]⟩) (fun rest _ => okR (valsB p.Nodes k rest) 0 ⟨[], []⟩ 6) ?_ ?_ () trivial
    · intro _ _
      rw [hlen, loopV_by B0_spec_l05Values.eq_1]
      simp only [EG, EL, ↓reduceIte, Nat.reduceEqDiff, Nat.reduceAdd, Nat.reduceSub, Nat.reduceMul, Nat.reduceLeDiff, Nat.reduceLT, Int.reduceLT, Int.reduceLE, Int.reduceEq, Int.reduceToNat, reduceCtorEq, FB, ED, int_lt_irrefl, valsB, List.all_nil, okR_true]
    · rintro i hi0 y rest _ rfl rfl _ ih
      rw [hlen] at hi0
      have hi : (i : Int) < (n : Int) := by omega
      have hki := sem_spec_l05Kid p hp k i hk (by omega)
      simp only [cProgram] at hki
      have hge : ((ndF p.Nodes k).Kids.take n)[i] = (ndF p.Nodes k).Kids.getD i 0 := by
        rw [List.getElem_take]; simp [show i < (ndF p.Nodes k).Kids.length by omega]
      have i1 := ih () trivial
      rw [loopV_by B0_spec_l05Values.eq_1, hge]
      generalize (ndF p.Nodes k).Kids.getD i 0 = x at hki ⊢
      unfold valsB at i1 ⊢
      rw [List.all_cons]
      cases hv : isValK (kidK p.Nodes k x)
      all_goals simp (maxSteps := 10000000) (disch := first | assumption | omega) only [EG, EL, ↓reduceIte, Nat.reduceEqDiff, Nat.reduceAdd, Nat.reduceSub, Nat.reduceMul, Nat.reduceLeDiff, Nat.reduceLT, Int.reduceLT, Int.reduceLE, Int.reduceEq, Int.reduceToNat, reduceCtorEq, FB, ED, FT, cx_spec_l05Values, cl_spec_l05Kid, hki, cl_spec_l05Value, sem_spec_l05Value, hi, hv, wrap_succ, Bool.true_and, Bool.false_and, okR_false, i1]
  have hnz : (n : Int) ≤ 1099511627776 := by omega
  rw [sg_spec_l05Values, sem_go]
  simp (maxSteps := 10000000) (disch := first | assumption | omega) only [cProgram, F_spec_l05Values, params, EG, EL, ↓reduceIte, Nat.reduceEqDiff, Nat.reduceAdd, Nat.reduceSub, Nat.reduceMul, Nat.reduceLeDiff, Nat.reduceLT, Int.reduceLT, Int.reduceLE, Int.reduceEq, Int.reduceToNat, reduceCtorEq, FB, ED, FT, cx_spec_l05Values, loop, goE_okR]
  cases valsB p.Nodes k ((ndF p.Nodes k).Kids.take n) <;> simp only [EG, EL, ↓reduceIte, Nat.reduceEqDiff, Nat.reduceAdd, Nat.reduceSub, Nat.reduceMul, Nat.reduceLeDiff, Nat.reduceLT, Int.reduceLT, Int.reduceLE, Int.reduceEq, Int.reduceToNat, reduceCtorEq, FB]
theorem sem_spec_l05Blocks (p : DProgram) (hp : gdN p) (k n : Nat) (hk : k < p.Nodes.length) (hn : n ≤ (ndF p.Nodes k).Kids.length) : S_spec_l05Blocks.sem [.agg (cProgram p), .int .i64 (k : Int), .int .i64 (n : Int)] = some (.bool (blksB p.Nodes k ((ndF p.Nodes k).Kids.drop n)), []) := by
  have hlen : ((ndF p.Nodes k).Kids.drop n).length = (ndF p.Nodes k).Kids.length - n := by rw [List.length_drop]
  have hkl := (gdN_get hp hk).1
  have hk' : (k : Int) < (p.Nodes.length : Int) := by omega
  have hg := getRowN p.Nodes hk
  have loop : loopV X_spec_l05Blocks 0 [1, 3, 7] [(1, []), (0, [6])] B0_spec_l05Blocks ⟨[(1, .int .i64 (k : Int)), (3, .ptr ⟨0, none, 0⟩ 3 0 0), (7, .int .i64 ((n + 0 : Nat) : Int))], [some ⟨true, 0, 3, [[.tree 6 (p.Nodes.map cNode), .tree 4 (p.Monitors.map cMonitor), .tree 4 (p.Processes.map cProcess)]]⟩]⟩ = okR (blksB p.Nodes k ((ndF p.Nodes k).Kids.drop n)) 0 ⟨[], []⟩ 6 := by
    refine loop_list ((ndF p.Nodes k).Kids.drop n) (fun _ (_ : Unit) => True) (fun i _ => ⟨[(1, .int .i64 (k : Int)), (3, .ptr ⟨0, none, 0⟩ 3 0 0), (7, .int .i64 ((n + i : Nat) : Int))], [some ⟨true, 0, 3, [[.tree 6 (p.Nodes.map cNode), .tree 4 (p.Monitors.map cMonitor), .tree 4 (p.Processes.map cProcess)]]⟩]⟩) (fun rest _ => okR (blksB p.Nodes k rest) 0 ⟨[], []⟩ 6) ?_ ?_ () trivial
    · intro _ _
      have he : n + ((ndF p.Nodes k).Kids.length - n) = (ndF p.Nodes k).Kids.length := by omega
      rw [hlen, he, loopV_by B0_spec_l05Blocks.eq_1]
      simp (maxSteps := 10000000) (disch := first | assumption | omega) only [EG, EL, ↓reduceIte, Nat.reduceEqDiff, Nat.reduceAdd, Nat.reduceSub, Nat.reduceMul, Nat.reduceLeDiff, Nat.reduceLT, Int.reduceLT, Int.reduceLE, Int.reduceEq, Int.reduceToNat, reduceCtorEq, FB, ED, hk, hk', hg, int_lt_irrefl, blksB, List.all_nil, okR_true]
    · rintro i hi0 y rest _ rfl rfl _ ih
      rw [hlen] at hi0
      have hi : ((n + i : Nat) : Int) < ((ndF p.Nodes k).Kids.length : Int) := by omega
      have hki := sem_spec_l05Kid p hp k (n + i) hk (by omega)
      simp only [cProgram] at hki
      have hge : ((ndF p.Nodes k).Kids.drop n)[i] = (ndF p.Nodes k).Kids.getD (n + i) 0 := by
        rw [List.getElem_drop]; simp [show n + i < (ndF p.Nodes k).Kids.length by omega]
      have i1 := ih () trivial
      have hw : IntKind.wrap .i64 (((n + i : Nat) : Int) + 1) = ((n + (i + 1) : Nat) : Int) := by rw [wrapI (by omega) (by omega)]; omega
      rw [loopV_by B0_spec_l05Blocks.eq_1, hge]
      generalize (ndF p.Nodes k).Kids.getD (n + i) 0 = x at hki ⊢
      unfold blksB isBlkK at i1 ⊢
      rw [List.all_cons]
      by_cases hv : kidK p.Nodes k x = 20
      · have hv' : (kidK p.Nodes k x = 20) = True := eq_true hv
        simp (maxSteps := 10000000) (disch := first | assumption | omega) only [EG, EL, ↓reduceIte, Nat.reduceEqDiff, Nat.reduceAdd, Nat.reduceSub, Nat.reduceMul, Nat.reduceLeDiff, Nat.reduceLT, Int.reduceLT, Int.reduceLE, Int.reduceEq, Int.reduceToNat, reduceCtorEq, FB, ED, FT, cx_spec_l05Blocks, cl_spec_l05Kid, hki, hk, hk', hg, hi, hv', hw, Bool.true_and, Bool.false_and, okR_false, i1, decide_true, decide_false]
      · have hv' : (kidK p.Nodes k x = 20) = False := eq_false hv
        simp (maxSteps := 10000000) (disch := first | assumption | omega) only [EG, EL, ↓reduceIte, Nat.reduceEqDiff, Nat.reduceAdd, Nat.reduceSub, Nat.reduceMul, Nat.reduceLeDiff, Nat.reduceLT, Int.reduceLT, Int.reduceLE, Int.reduceEq, Int.reduceToNat, reduceCtorEq, FB, ED, FT, cx_spec_l05Blocks, cl_spec_l05Kid, hki, hk, hk', hg, hi, hv', hw, Bool.true_and, Bool.false_and, okR_false, i1, decide_true, decide_false]
  rw [Nat.add_zero] at loop
  rw [sg_spec_l05Blocks, sem_go]
  simp (maxSteps := 10000000) (disch := first | assumption | omega) only [cProgram, F_spec_l05Blocks, params, EG, EL, ↓reduceIte, Nat.reduceEqDiff, Nat.reduceAdd, Nat.reduceSub, Nat.reduceMul, Nat.reduceLeDiff, Nat.reduceLT, Int.reduceLT, Int.reduceLE, Int.reduceEq, Int.reduceToNat, reduceCtorEq, FB, ED, FT, cx_spec_l05Blocks, loop, goE_okR]
  cases blksB p.Nodes k ((ndF p.Nodes k).Kids.drop n) <;> simp only [EG, EL, ↓reduceIte, Nat.reduceEqDiff, Nat.reduceAdd, Nat.reduceSub, Nat.reduceMul, Nat.reduceLeDiff, Nat.reduceLT, Int.reduceLT, Int.reduceLE, Int.reduceEq, Int.reduceToNat, reduceCtorEq, FB]
theorem loop_spec_l05Kids (p : DProgram) (hp : gdN p) (k : Nat) (hk : k < p.Nodes.length) : loopV X_spec_l05Kids 0 [1, 2, 5, 6] [(2, [5]), (0, [4])] B0_spec_l05Kids ⟨[(1, .int .i64 (k : Int)), (2, .ptr ⟨0, none, 0⟩ 3 0 0), (5, .int .i64 ((ndF p.Nodes k).Kids.length : Int)), (6, .int .i64 0)], [some ⟨true, 0, 3, [[.tree 6 (p.Nodes.map cNode), .tree 4 (p.Monitors.map cMonitor), .tree 4 (p.Processes.map cProcess)]]⟩]⟩ = okR (stmsB p.Nodes k (ndF p.Nodes k).Kids) 1 ⟨[(5, .int .i64 ((ndF p.Nodes k).Kids.length : Int))], []⟩ 4 := by
  have hkl := (gdN_get hp hk).1
  refine loop_list (ndF p.Nodes k).Kids (fun _ (_ : Unit) => True) (fun i _ => ⟨[(1, .int .i64 (k : Int)), (2, .ptr ⟨0, none, 0⟩ 3 0 0), (5, .int .i64 ((ndF p.Nodes k).Kids.length : Int)), (6, .int .i64 ((i : Nat) : Int))], [some ⟨true, 0, 3, [[.tree 6 (p.Nodes.map cNode), .tree 4 (p.Monitors.map cMonitor), .tree 4 (p.Processes.map cProcess)]]⟩]⟩) (fun rest _ => okR (stmsB p.Nodes k rest) 1 ⟨[(5, .int .i64 ((ndF p.Nodes k).Kids.length : Int))], []⟩ 4) ?_ ?_ () trivial
  · intro _ _
    rw [loopV_by B0_spec_l05Kids.eq_1]
    simp only [EG, EL, ↓reduceIte, Nat.reduceEqDiff, Nat.reduceAdd, Nat.reduceSub, Nat.reduceMul, Nat.reduceLeDiff, Nat.reduceLT, Int.reduceLT, Int.reduceLE, Int.reduceEq, Int.reduceToNat, reduceCtorEq, FB, ED, int_lt_irrefl, stmsB, List.all_nil, okR_true]
  · rintro i hi0 y rest _ rfl rfl _ ih
    have hi : (i : Int) < ((ndF p.Nodes k).Kids.length : Int) := by omega
    have hki := sem_spec_l05Kid p hp k i hk hi0
    simp only [cProgram] at hki
    have hge : (ndF p.Nodes k).Kids[i] = (ndF p.Nodes k).Kids.getD i 0 := by simp [hi0]
    have i1 := ih () trivial
    rw [loopV_by B0_spec_l05Kids.eq_1, hge]
    generalize (ndF p.Nodes k).Kids.getD i 0 = x at hki ⊢
    unfold stmsB at i1 ⊢
    rw [List.all_cons]
    cases hv : isStmK (kidK p.Nodes k x)
    all_goals simp (maxSteps := 10000000) (disch := first | assumption | omega) only [EG, EL, ↓reduceIte, Nat.reduceEqDiff, Nat.reduceAdd, Nat.reduceSub, Nat.reduceMul, Nat.reduceLeDiff, Nat.reduceLT, Int.reduceLT, Int.reduceLE, Int.reduceEq, Int.reduceToNat, reduceCtorEq, FB, ED, FT, cx_spec_l05Kids, cl_spec_l05Kid, hki, cl_spec_l05Statement, sem_spec_l05Statement, hi, hv, wrap_succ, Bool.true_and, Bool.false_and, okR_false, i1]
set_option maxHeartbeats 4000000 in
theorem sem_spec_l05Kids (p : DProgram) (hp : gdN p) (k : Nat) (hk : k < p.Nodes.length) (hkd : kindB (ndF p.Nodes k).Kind = true) : S_spec_l05Kids.sem [.agg (cProgram p), .int .i64 (k : Int)] = some (.bool (kidsF p.Nodes k (ndF p.Nodes k).Kind (ndF p.Nodes k).Kids), []) := by
  have hk' : (k : Int) < (p.Nodes.length : Int) := by omega
  have hg := getRowN p.Nodes hk
  have h0 := hp.1
  have hkl := (gdN_get hp hk).1
  have lp := loop_spec_l05Kids p hp k hk
  have hcase : (ndF p.Nodes k).Kind = 1 ∨ (ndF p.Nodes k).Kind = 2 ∨ (ndF p.Nodes k).Kind = 3 ∨ (ndF p.Nodes k).Kind = 4 ∨ (ndF p.Nodes k).Kind = 5 ∨ (ndF p.Nodes k).Kind = 11 ∨ (ndF p.Nodes k).Kind = 12 ∨ (ndF p.Nodes k).Kind = 13 ∨ (ndF p.Nodes k).Kind = 14 ∨ (ndF p.Nodes k).Kind = 15 ∨ (ndF p.Nodes k).Kind = 16 ∨ (ndF p.Nodes k).Kind = 17 ∨ (ndF p.Nodes k).Kind = 18 ∨ (ndF p.Nodes k).Kind = 19 ∨ (ndF p.Nodes k).Kind = 20 := by
    unfold kindB isValK isStmK isBlkK at hkd
    simp only [Bool.or_eq_true, decide_eq_true_eq] at hkd
    omega
  rw [sg_spec_l05Kids, sem_go]
  rcases hcase with hK | hK | hK | hK | hK | hK | hK | hK | hK | hK | hK | hK | hK | hK | hK
  · have hn : (((ndF p.Nodes k).Kids.length : Int) = 0) = ((ndF p.Nodes k).Kids.length = 0) := by apply propext; omega
    simp (maxSteps := 10000000) (disch := first | assumption | omega) only [cProgram, F_spec_l05Kids, params, EG, EL, ↓reduceIte, Nat.reduceEqDiff, Nat.reduceAdd, Nat.reduceSub, Nat.reduceMul, Nat.reduceLeDiff, Nat.reduceLT, Int.reduceLT, Int.reduceLE, Int.reduceEq, Int.reduceToNat, reduceCtorEq, FB, ED, FT, cx_spec_l05Kids, hk, hk', hg, hK, kidsF, decide_true, decide_false, Bool.and_true, Bool.true_and, Bool.and_false, Bool.false_and, Bool.or_false, Bool.false_or, Bool.or_true, Bool.true_or, true_or, or_true, or_false, false_or, or_self, Int.reduceEq, hn]
  · have hn : (((ndF p.Nodes k).Kids.length : Int) = 0) = ((ndF p.Nodes k).Kids.length = 0) := by apply propext; omega
    simp (maxSteps := 10000000) (disch := first | assumption | omega) only [cProgram, F_spec_l05Kids, params, EG, EL, ↓reduceIte, Nat.reduceEqDiff, Nat.reduceAdd, Nat.reduceSub, Nat.reduceMul, Nat.reduceLeDiff, Nat.reduceLT, Int.reduceLT, Int.reduceLE, Int.reduceEq, Int.reduceToNat, reduceCtorEq, FB, ED, FT, cx_spec_l05Kids, hk, hk', hg, hK, kidsF, decide_true, decide_false, Bool.and_true, Bool.true_and, Bool.and_false, Bool.false_and, Bool.or_false, Bool.false_or, Bool.or_true, Bool.true_or, true_or, or_true, or_false, false_or, or_self, Int.reduceEq, hn]
  · by_cases h2 : (ndF p.Nodes k).Kids.length = 2
    · have hn : (((ndF p.Nodes k).Kids.length : Int) = 2) = True := eq_true (by omega)
      have v := sem_spec_l05Values p hp k 2 hk (by omega)
      simp only [cProgram, cast_lit] at v
      simp (maxSteps := 10000000) (disch := first | assumption | omega) only [cProgram, F_spec_l05Kids, params, EG, EL, ↓reduceIte, Nat.reduceEqDiff, Nat.reduceAdd, Nat.reduceSub, Nat.reduceMul, Nat.reduceLeDiff, Nat.reduceLT, Int.reduceLT, Int.reduceLE, Int.reduceEq, Int.reduceToNat, reduceCtorEq, FB, ED, FT, cx_spec_l05Kids, hk, hk', hg, hK, kidsF, decide_true, decide_false, Bool.and_true, Bool.true_and, Bool.and_false, Bool.false_and, Bool.or_false, Bool.false_or, Bool.or_true, Bool.true_or, true_or, or_true, or_false, false_or, or_self, Int.reduceEq, hn, h2, cl_spec_l05Values, v]
    · have hn : (((ndF p.Nodes k).Kids.length : Int) = 2) = False := eq_false (by omega)
      simp (maxSteps := 10000000) (disch := first | assumption | omega) only [cProgram, F_spec_l05Kids, params, EG, EL, ↓reduceIte, Nat.reduceEqDiff, Nat.reduceAdd, Nat.reduceSub, Nat.reduceMul, Nat.reduceLeDiff, Nat.reduceLT, Int.reduceLT, Int.reduceLE, Int.reduceEq, Int.reduceToNat, reduceCtorEq, FB, ED, FT, cx_spec_l05Kids, hk, hk', hg, hK, kidsF, decide_true, decide_false, Bool.and_true, Bool.true_and, Bool.and_false, Bool.false_and, Bool.or_false, Bool.false_or, Bool.or_true, Bool.true_or, true_or, or_true, or_false, false_or, or_self, Int.reduceEq, hn, h2]
  · by_cases h2 : (ndF p.Nodes k).Kids.length = 1
    · have hn : (((ndF p.Nodes k).Kids.length : Int) = 1) = True := eq_true (by omega)
      have v := sem_spec_l05Values p hp k 1 hk (by omega)
      simp only [cProgram, cast_lit] at v
      simp (maxSteps := 10000000) (disch := first | assumption | omega) only [cProgram, F_spec_l05Kids, params, EG, EL, ↓reduceIte, Nat.reduceEqDiff, Nat.reduceAdd, Nat.reduceSub, Nat.reduceMul, Nat.reduceLeDiff, Nat.reduceLT, Int.reduceLT, Int.reduceLE, Int.reduceEq, Int.reduceToNat, reduceCtorEq, FB, ED, FT, cx_spec_l05Kids, hk, hk', hg, hK, kidsF, decide_true, decide_false, Bool.and_true, Bool.true_and, Bool.and_false, Bool.false_and, Bool.or_false, Bool.false_or, Bool.or_true, Bool.true_or, true_or, or_true, or_false, false_or, or_self, Int.reduceEq, hn, h2, cl_spec_l05Values, v]
    · have hn : (((ndF p.Nodes k).Kids.length : Int) = 1) = False := eq_false (by omega)
      simp (maxSteps := 10000000) (disch := first | assumption | omega) only [cProgram, F_spec_l05Kids, params, EG, EL, ↓reduceIte, Nat.reduceEqDiff, Nat.reduceAdd, Nat.reduceSub, Nat.reduceMul, Nat.reduceLeDiff, Nat.reduceLT, Int.reduceLT, Int.reduceLE, Int.reduceEq, Int.reduceToNat, reduceCtorEq, FB, ED, FT, cx_spec_l05Kids, hk, hk', hg, hK, kidsF, decide_true, decide_false, Bool.and_true, Bool.true_and, Bool.and_false, Bool.false_and, Bool.or_false, Bool.false_or, Bool.or_true, Bool.true_or, true_or, or_true, or_false, false_or, or_self, Int.reduceEq, hn, h2]
  · by_cases h2 : (ndF p.Nodes k).Kids.length = 1
    · have hn : (((ndF p.Nodes k).Kids.length : Int) = 1) = True := eq_true (by omega)
      have v := sem_spec_l05Values p hp k 1 hk (by omega)
      simp only [cProgram, cast_lit] at v
      simp (maxSteps := 10000000) (disch := first | assumption | omega) only [cProgram, F_spec_l05Kids, params, EG, EL, ↓reduceIte, Nat.reduceEqDiff, Nat.reduceAdd, Nat.reduceSub, Nat.reduceMul, Nat.reduceLeDiff, Nat.reduceLT, Int.reduceLT, Int.reduceLE, Int.reduceEq, Int.reduceToNat, reduceCtorEq, FB, ED, FT, cx_spec_l05Kids, hk, hk', hg, hK, kidsF, decide_true, decide_false, Bool.and_true, Bool.true_and, Bool.and_false, Bool.false_and, Bool.or_false, Bool.false_or, Bool.or_true, Bool.true_or, true_or, or_true, or_false, false_or, or_self, Int.reduceEq, hn, h2, cl_spec_l05Values, v]
    · have hn : (((ndF p.Nodes k).Kids.length : Int) = 1) = False := eq_false (by omega)
      simp (maxSteps := 10000000) (disch := first | assumption | omega) only [cProgram, F_spec_l05Kids, params, EG, EL, ↓reduceIte, Nat.reduceEqDiff, Nat.reduceAdd, Nat.reduceSub, Nat.reduceMul, Nat.reduceLeDiff, Nat.reduceLT, Int.reduceLT, Int.reduceLE, Int.reduceEq, Int.reduceToNat, reduceCtorEq, FB, ED, FT, cx_spec_l05Kids, hk, hk', hg, hK, kidsF, decide_true, decide_false, Bool.and_true, Bool.true_and, Bool.and_false, Bool.false_and, Bool.or_false, Bool.false_or, Bool.or_true, Bool.true_or, true_or, or_true, or_false, false_or, or_self, Int.reduceEq, hn, h2]
  · by_cases h2 : (ndF p.Nodes k).Kids.length = 1
    · have hn : (((ndF p.Nodes k).Kids.length : Int) = 1) = True := eq_true (by omega)
      have v := sem_spec_l05Values p hp k 1 hk (by omega)
      simp only [cProgram, cast_lit] at v
      simp (maxSteps := 10000000) (disch := first | assumption | omega) only [cProgram, F_spec_l05Kids, params, EG, EL, ↓reduceIte, Nat.reduceEqDiff, Nat.reduceAdd, Nat.reduceSub, Nat.reduceMul, Nat.reduceLeDiff, Nat.reduceLT, Int.reduceLT, Int.reduceLE, Int.reduceEq, Int.reduceToNat, reduceCtorEq, FB, ED, FT, cx_spec_l05Kids, hk, hk', hg, hK, kidsF, decide_true, decide_false, Bool.and_true, Bool.true_and, Bool.and_false, Bool.false_and, Bool.or_false, Bool.false_or, Bool.or_true, Bool.true_or, true_or, or_true, or_false, false_or, or_self, Int.reduceEq, hn, h2, cl_spec_l05Values, v]
    · have hn : (((ndF p.Nodes k).Kids.length : Int) = 1) = False := eq_false (by omega)
      simp (maxSteps := 10000000) (disch := first | assumption | omega) only [cProgram, F_spec_l05Kids, params, EG, EL, ↓reduceIte, Nat.reduceEqDiff, Nat.reduceAdd, Nat.reduceSub, Nat.reduceMul, Nat.reduceLeDiff, Nat.reduceLT, Int.reduceLT, Int.reduceLE, Int.reduceEq, Int.reduceToNat, reduceCtorEq, FB, ED, FT, cx_spec_l05Kids, hk, hk', hg, hK, kidsF, decide_true, decide_false, Bool.and_true, Bool.true_and, Bool.and_false, Bool.false_and, Bool.or_false, Bool.false_or, Bool.or_true, Bool.true_or, true_or, or_true, or_false, false_or, or_self, Int.reduceEq, hn, h2]
  · by_cases h1 : 1 ≤ (ndF p.Nodes k).Kids.length
    · have v := sem_spec_l05Values p hp k 1 hk (by omega)
      have b := sem_spec_l05Blocks p hp k 1 hk (by omega)
      simp only [cProgram, cast_lit] at v b
      by_cases h2 : (ndF p.Nodes k).Kids.length = 2
      · have hn : (((ndF p.Nodes k).Kids.length : Int) = 2) = True := eq_true (by omega)
        cases hv : valsB p.Nodes k ((ndF p.Nodes k).Kids.take 1)
        all_goals rw [hv] at v
        all_goals simp (maxSteps := 10000000) (disch := first | assumption | omega) only [cProgram, F_spec_l05Kids, params, EG, EL, ↓reduceIte, Nat.reduceEqDiff, Nat.reduceAdd, Nat.reduceSub, Nat.reduceMul, Nat.reduceLeDiff, Nat.reduceLT, Int.reduceLT, Int.reduceLE, Int.reduceEq, Int.reduceToNat, reduceCtorEq, FB, ED, FT, cx_spec_l05Kids, hk, hk', hg, hK, kidsF, decide_true, decide_false, Bool.and_true, Bool.true_and, Bool.and_false, Bool.false_and, Bool.or_false, Bool.false_or, Bool.or_true, Bool.true_or, true_or, or_true, or_false, false_or, or_self, Int.reduceEq, hn, h2, hv, cl_spec_l05Values, v, cl_spec_l05Blocks, b]
      · have hn : (((ndF p.Nodes k).Kids.length : Int) = 2) = False := eq_false (by omega)
        by_cases h3 : (ndF p.Nodes k).Kids.length = 3
        · have hn3 : (((ndF p.Nodes k).Kids.length : Int) = 3) = True := eq_true (by omega)
          cases hv : valsB p.Nodes k ((ndF p.Nodes k).Kids.take 1)
          all_goals rw [hv] at v
          all_goals simp (maxSteps := 10000000) (disch := first | assumption | omega) only [cProgram, F_spec_l05Kids, params, EG, EL, ↓reduceIte, Nat.reduceEqDiff, Nat.reduceAdd, Nat.reduceSub, Nat.reduceMul, Nat.reduceLeDiff, Nat.reduceLT, Int.reduceLT, Int.reduceLE, Int.reduceEq, Int.reduceToNat, reduceCtorEq, FB, ED, FT, cx_spec_l05Kids, hk, hk', hg, hK, kidsF, decide_true, decide_false, Bool.and_true, Bool.true_and, Bool.and_false, Bool.false_and, Bool.or_false, Bool.false_or, Bool.or_true, Bool.true_or, true_or, or_true, or_false, false_or, or_self, Int.reduceEq, hn, h2, hn3, h3, hv, cl_spec_l05Values, v, cl_spec_l05Blocks, b, Nat.reduceEqDiff]
        · have hn3 : (((ndF p.Nodes k).Kids.length : Int) = 3) = False := eq_false (by omega)
          simp (maxSteps := 10000000) (disch := first | assumption | omega) only [cProgram, F_spec_l05Kids, params, EG, EL, ↓reduceIte, Nat.reduceEqDiff, Nat.reduceAdd, Nat.reduceSub, Nat.reduceMul, Nat.reduceLeDiff, Nat.reduceLT, Int.reduceLT, Int.reduceLE, Int.reduceEq, Int.reduceToNat, reduceCtorEq, FB, ED, FT, cx_spec_l05Kids, hk, hk', hg, hK, kidsF, decide_true, decide_false, Bool.and_true, Bool.true_and, Bool.and_false, Bool.false_and, Bool.or_false, Bool.false_or, Bool.or_true, Bool.true_or, true_or, or_true, or_false, false_or, or_self, Int.reduceEq, hn, h2, hn3, h3]
    · have h2 : ¬ (ndF p.Nodes k).Kids.length = 2 := by omega
      have h3 : ¬ (ndF p.Nodes k).Kids.length = 3 := by omega
      have hn : (((ndF p.Nodes k).Kids.length : Int) = 2) = False := eq_false (by omega)
      have hn3 : (((ndF p.Nodes k).Kids.length : Int) = 3) = False := eq_false (by omega)
      simp (maxSteps := 10000000) (disch := first | assumption | omega) only [cProgram, F_spec_l05Kids, params, EG, EL, ↓reduceIte, Nat.reduceEqDiff, Nat.reduceAdd, Nat.reduceSub, Nat.reduceMul, Nat.reduceLeDiff, Nat.reduceLT, Int.reduceLT, Int.reduceLE, Int.reduceEq, Int.reduceToNat, reduceCtorEq, FB, ED, FT, cx_spec_l05Kids, hk, hk', hg, hK, kidsF, decide_true, decide_false, Bool.and_true, Bool.true_and, Bool.and_false, Bool.false_and, Bool.or_false, Bool.false_or, Bool.or_true, Bool.true_or, true_or, or_true, or_false, false_or, or_self, Int.reduceEq, hn, h2, hn3, h3]
  · by_cases h1 : 1 ≤ (ndF p.Nodes k).Kids.length
    · have v := sem_spec_l05Values p hp k 1 hk (by omega)
      have b := sem_spec_l05Blocks p hp k 1 hk (by omega)
      simp only [cProgram, cast_lit] at v b
      by_cases h2 : (ndF p.Nodes k).Kids.length = 2
      · have hn : (((ndF p.Nodes k).Kids.length : Int) = 2) = True := eq_true (by omega)
        cases hv : valsB p.Nodes k ((ndF p.Nodes k).Kids.take 1)
        all_goals rw [hv] at v
        all_goals simp (maxSteps := 10000000) (disch := first | assumption | omega) only [cProgram, F_spec_l05Kids, params, EG, EL, ↓reduceIte, Nat.reduceEqDiff, Nat.reduceAdd, Nat.reduceSub, Nat.reduceMul, Nat.reduceLeDiff, Nat.reduceLT, Int.reduceLT, Int.reduceLE, Int.reduceEq, Int.reduceToNat, reduceCtorEq, FB, ED, FT, cx_spec_l05Kids, hk, hk', hg, hK, kidsF, decide_true, decide_false, Bool.and_true, Bool.true_and, Bool.and_false, Bool.false_and, Bool.or_false, Bool.false_or, Bool.or_true, Bool.true_or, true_or, or_true, or_false, false_or, or_self, Int.reduceEq, hn, h2, hv, cl_spec_l05Values, v, cl_spec_l05Blocks, b]
      · have hn : (((ndF p.Nodes k).Kids.length : Int) = 2) = False := eq_false (by omega)
        by_cases h3 : (ndF p.Nodes k).Kids.length = 3
        · have hn3 : (((ndF p.Nodes k).Kids.length : Int) = 3) = True := eq_true (by omega)
          cases hv : valsB p.Nodes k ((ndF p.Nodes k).Kids.take 1)
          all_goals rw [hv] at v
          all_goals simp (maxSteps := 10000000) (disch := first | assumption | omega) only [cProgram, F_spec_l05Kids, params, EG, EL, ↓reduceIte, Nat.reduceEqDiff, Nat.reduceAdd, Nat.reduceSub, Nat.reduceMul, Nat.reduceLeDiff, Nat.reduceLT, Int.reduceLT, Int.reduceLE, Int.reduceEq, Int.reduceToNat, reduceCtorEq, FB, ED, FT, cx_spec_l05Kids, hk, hk', hg, hK, kidsF, decide_true, decide_false, Bool.and_true, Bool.true_and, Bool.and_false, Bool.false_and, Bool.or_false, Bool.false_or, Bool.or_true, Bool.true_or, true_or, or_true, or_false, false_or, or_self, Int.reduceEq, hn, h2, hn3, h3, hv, cl_spec_l05Values, v, cl_spec_l05Blocks, b, Nat.reduceEqDiff]
        · have hn3 : (((ndF p.Nodes k).Kids.length : Int) = 3) = False := eq_false (by omega)
          simp (maxSteps := 10000000) (disch := first | assumption | omega) only [cProgram, F_spec_l05Kids, params, EG, EL, ↓reduceIte, Nat.reduceEqDiff, Nat.reduceAdd, Nat.reduceSub, Nat.reduceMul, Nat.reduceLeDiff, Nat.reduceLT, Int.reduceLT, Int.reduceLE, Int.reduceEq, Int.reduceToNat, reduceCtorEq, FB, ED, FT, cx_spec_l05Kids, hk, hk', hg, hK, kidsF, decide_true, decide_false, Bool.and_true, Bool.true_and, Bool.and_false, Bool.false_and, Bool.or_false, Bool.false_or, Bool.or_true, Bool.true_or, true_or, or_true, or_false, false_or, or_self, Int.reduceEq, hn, h2, hn3, h3]
    · have h2 : ¬ (ndF p.Nodes k).Kids.length = 2 := by omega
      have h3 : ¬ (ndF p.Nodes k).Kids.length = 3 := by omega
      have hn : (((ndF p.Nodes k).Kids.length : Int) = 2) = False := eq_false (by omega)
      have hn3 : (((ndF p.Nodes k).Kids.length : Int) = 3) = False := eq_false (by omega)
      simp (maxSteps := 10000000) (disch := first | assumption | omega) only [cProgram, F_spec_l05Kids, params, EG, EL, ↓reduceIte, Nat.reduceEqDiff, Nat.reduceAdd, Nat.reduceSub, Nat.reduceMul, Nat.reduceLeDiff, Nat.reduceLT, Int.reduceLT, Int.reduceLE, Int.reduceEq, Int.reduceToNat, reduceCtorEq, FB, ED, FT, cx_spec_l05Kids, hk, hk', hg, hK, kidsF, decide_true, decide_false, Bool.and_true, Bool.true_and, Bool.and_false, Bool.false_and, Bool.or_false, Bool.false_or, Bool.or_true, Bool.true_or, true_or, or_true, or_false, false_or, or_self, Int.reduceEq, hn, h2, hn3, h3]
  · by_cases h2 : (ndF p.Nodes k).Kids.length = 1
    · have hn : (((ndF p.Nodes k).Kids.length : Int) = 1) = True := eq_true (by omega)
      have v := sem_spec_l05Values p hp k 1 hk (by omega)
      simp only [cProgram, cast_lit] at v
      simp (maxSteps := 10000000) (disch := first | assumption | omega) only [cProgram, F_spec_l05Kids, params, EG, EL, ↓reduceIte, Nat.reduceEqDiff, Nat.reduceAdd, Nat.reduceSub, Nat.reduceMul, Nat.reduceLeDiff, Nat.reduceLT, Int.reduceLT, Int.reduceLE, Int.reduceEq, Int.reduceToNat, reduceCtorEq, FB, ED, FT, cx_spec_l05Kids, hk, hk', hg, hK, kidsF, decide_true, decide_false, Bool.and_true, Bool.true_and, Bool.and_false, Bool.false_and, Bool.or_false, Bool.false_or, Bool.or_true, Bool.true_or, true_or, or_true, or_false, false_or, or_self, Int.reduceEq, hn, h2, cl_spec_l05Values, v]
    · have hn : (((ndF p.Nodes k).Kids.length : Int) = 1) = False := eq_false (by omega)
      simp (maxSteps := 10000000) (disch := first | assumption | omega) only [cProgram, F_spec_l05Kids, params, EG, EL, ↓reduceIte, Nat.reduceEqDiff, Nat.reduceAdd, Nat.reduceSub, Nat.reduceMul, Nat.reduceLeDiff, Nat.reduceLT, Int.reduceLT, Int.reduceLE, Int.reduceEq, Int.reduceToNat, reduceCtorEq, FB, ED, FT, cx_spec_l05Kids, hk, hk', hg, hK, kidsF, decide_true, decide_false, Bool.and_true, Bool.true_and, Bool.and_false, Bool.false_and, Bool.or_false, Bool.false_or, Bool.or_true, Bool.true_or, true_or, or_true, or_false, false_or, or_self, Int.reduceEq, hn, h2]
  · by_cases h2 : (ndF p.Nodes k).Kids.length = 1
    · have hn : (((ndF p.Nodes k).Kids.length : Int) = 1) = True := eq_true (by omega)
      have v := sem_spec_l05Values p hp k 1 hk (by omega)
      simp only [cProgram, cast_lit] at v
      simp (maxSteps := 10000000) (disch := first | assumption | omega) only [cProgram, F_spec_l05Kids, params, EG, EL, ↓reduceIte, Nat.reduceEqDiff, Nat.reduceAdd, Nat.reduceSub, Nat.reduceMul, Nat.reduceLeDiff, Nat.reduceLT, Int.reduceLT, Int.reduceLE, Int.reduceEq, Int.reduceToNat, reduceCtorEq, FB, ED, FT, cx_spec_l05Kids, hk, hk', hg, hK, kidsF, decide_true, decide_false, Bool.and_true, Bool.true_and, Bool.and_false, Bool.false_and, Bool.or_false, Bool.false_or, Bool.or_true, Bool.true_or, true_or, or_true, or_false, false_or, or_self, Int.reduceEq, hn, h2, cl_spec_l05Values, v]
    · have hn : (((ndF p.Nodes k).Kids.length : Int) = 1) = False := eq_false (by omega)
      simp (maxSteps := 10000000) (disch := first | assumption | omega) only [cProgram, F_spec_l05Kids, params, EG, EL, ↓reduceIte, Nat.reduceEqDiff, Nat.reduceAdd, Nat.reduceSub, Nat.reduceMul, Nat.reduceLeDiff, Nat.reduceLT, Int.reduceLT, Int.reduceLE, Int.reduceEq, Int.reduceToNat, reduceCtorEq, FB, ED, FT, cx_spec_l05Kids, hk, hk', hg, hK, kidsF, decide_true, decide_false, Bool.and_true, Bool.true_and, Bool.and_false, Bool.false_and, Bool.or_false, Bool.false_or, Bool.or_true, Bool.true_or, true_or, or_true, or_false, false_or, or_self, Int.reduceEq, hn, h2]
  · have hn : (((ndF p.Nodes k).Kids.length : Int) = 0) = ((ndF p.Nodes k).Kids.length = 0) := by apply propext; omega
    simp (maxSteps := 10000000) (disch := first | assumption | omega) only [cProgram, F_spec_l05Kids, params, EG, EL, ↓reduceIte, Nat.reduceEqDiff, Nat.reduceAdd, Nat.reduceSub, Nat.reduceMul, Nat.reduceLeDiff, Nat.reduceLT, Int.reduceLT, Int.reduceLE, Int.reduceEq, Int.reduceToNat, reduceCtorEq, FB, ED, FT, cx_spec_l05Kids, hk, hk', hg, hK, kidsF, decide_true, decide_false, Bool.and_true, Bool.true_and, Bool.and_false, Bool.false_and, Bool.or_false, Bool.false_or, Bool.or_true, Bool.true_or, true_or, or_true, or_false, false_or, or_self, Int.reduceEq, hn]
  · have hn : (((ndF p.Nodes k).Kids.length : Int) = 0) = ((ndF p.Nodes k).Kids.length = 0) := by apply propext; omega
    simp (maxSteps := 10000000) (disch := first | assumption | omega) only [cProgram, F_spec_l05Kids, params, EG, EL, ↓reduceIte, Nat.reduceEqDiff, Nat.reduceAdd, Nat.reduceSub, Nat.reduceMul, Nat.reduceLeDiff, Nat.reduceLT, Int.reduceLT, Int.reduceLE, Int.reduceEq, Int.reduceToNat, reduceCtorEq, FB, ED, FT, cx_spec_l05Kids, hk, hk', hg, hK, kidsF, decide_true, decide_false, Bool.and_true, Bool.true_and, Bool.and_false, Bool.false_and, Bool.or_false, Bool.false_or, Bool.or_true, Bool.true_or, true_or, or_true, or_false, false_or, or_self, Int.reduceEq, hn]
  · have hn : (((ndF p.Nodes k).Kids.length : Int) = 0) = ((ndF p.Nodes k).Kids.length = 0) := by apply propext; omega
    simp (maxSteps := 10000000) (disch := first | assumption | omega) only [cProgram, F_spec_l05Kids, params, EG, EL, ↓reduceIte, Nat.reduceEqDiff, Nat.reduceAdd, Nat.reduceSub, Nat.reduceMul, Nat.reduceLeDiff, Nat.reduceLT, Int.reduceLT, Int.reduceLE, Int.reduceEq, Int.reduceToNat, reduceCtorEq, FB, ED, FT, cx_spec_l05Kids, hk, hk', hg, hK, kidsF, decide_true, decide_false, Bool.and_true, Bool.true_and, Bool.and_false, Bool.false_and, Bool.or_false, Bool.false_or, Bool.or_true, Bool.true_or, true_or, or_true, or_false, false_or, or_self, Int.reduceEq, hn]
  · have hn : (((ndF p.Nodes k).Kids.length : Int) = 0) = ((ndF p.Nodes k).Kids.length = 0) := by apply propext; omega
    simp (maxSteps := 10000000) (disch := first | assumption | omega) only [cProgram, F_spec_l05Kids, params, EG, EL, ↓reduceIte, Nat.reduceEqDiff, Nat.reduceAdd, Nat.reduceSub, Nat.reduceMul, Nat.reduceLeDiff, Nat.reduceLT, Int.reduceLT, Int.reduceLE, Int.reduceEq, Int.reduceToNat, reduceCtorEq, FB, ED, FT, cx_spec_l05Kids, hk, hk', hg, hK, kidsF, decide_true, decide_false, Bool.and_true, Bool.true_and, Bool.and_false, Bool.false_and, Bool.or_false, Bool.false_or, Bool.or_true, Bool.true_or, true_or, or_true, or_false, false_or, or_self, Int.reduceEq, hn]
  · cases hs : stmsB p.Nodes k (ndF p.Nodes k).Kids
    · rw [hs, okR_false] at lp
      simp (maxSteps := 10000000) (disch := first | assumption | omega) only [cProgram, F_spec_l05Kids, params, EG, EL, ↓reduceIte, Nat.reduceEqDiff, Nat.reduceAdd, Nat.reduceSub, Nat.reduceMul, Nat.reduceLeDiff, Nat.reduceLT, Int.reduceLT, Int.reduceLE, Int.reduceEq, Int.reduceToNat, reduceCtorEq, FB, ED, FT, cx_spec_l05Kids, hk, hk', hg, hK, kidsF, decide_true, decide_false, Bool.and_true, Bool.true_and, Bool.and_false, Bool.false_and, Bool.or_false, Bool.false_or, Bool.or_true, Bool.true_or, true_or, or_true, or_false, false_or, or_self, Int.reduceEq, lp, hs, cl_spec_l01In, sem_spec_l01In]
    · rw [hs, okR_true] at lp
      simp (maxSteps := 10000000) (disch := first | assumption | omega) only [cProgram, F_spec_l05Kids, params, EG, EL, ↓reduceIte, Nat.reduceEqDiff, Nat.reduceAdd, Nat.reduceSub, Nat.reduceMul, Nat.reduceLeDiff, Nat.reduceLT, Int.reduceLT, Int.reduceLE, Int.reduceEq, Int.reduceToNat, reduceCtorEq, FB, ED, FT, cx_spec_l05Kids, hk, hk', hg, hK, kidsF, decide_true, decide_false, Bool.and_true, Bool.true_and, Bool.and_false, Bool.false_and, Bool.or_false, Bool.false_or, Bool.or_true, Bool.true_or, true_or, or_true, or_false, false_or, or_self, Int.reduceEq, lp, hs, cl_spec_l01In, sem_spec_l01In]
theorem BB : (∀ h : Decidable True, @decide True h = true) ∧ (∀ h : Decidable False, @decide False h = false) ∧ (∀ b : Bool, (b && true) = b) ∧ (∀ b : Bool, (true && b) = b) ∧ (∀ b : Bool, (b && false) = false) ∧ (∀ b : Bool, (false && b) = false) ∧ (∀ b : Bool, (b || false) = b) ∧ (∀ b : Bool, (false || b) = b) ∧ (∀ b : Bool, (b || true) = true) ∧ (∀ b : Bool, (true || b) = true) ∧ (∀ p : Prop, (True ∨ p) = True) ∧ (∀ p : Prop, (p ∨ True) = True) ∧ (∀ p : Prop, (p ∨ False) = p) ∧ (∀ p : Prop, (False ∨ p) = p) ∧ (∀ p : Prop, (p ∨ p) = p) ∧ ((!true) = false) ∧ ((!false) = true) ∧ (∀ p : Prop, (p ∧ True) = p) ∧ (∀ p : Prop, (True ∧ p) = p) ∧ (∀ p : Prop, (p ∧ False) = False) ∧ (∀ p : Prop, (False ∧ p) = False) ∧ ((¬ True) = False) ∧ ((¬ False) = True) ∧ ((true = false) = False) ∧ ((false = true) = False) := by
  refine ⟨?_, ?_, ?_⟩
  · intro h; simp
  · intro h; simp
  · simp
def inNd (ns : List DNode) (y : Int) : Bool := decide (0 ≤ y ∧ y ≤ (ns.length : Int) - 1)
def isValF (ns : List DNode) (y : Int) : Bool := inNd ns y && isValK (ndF ns y.toNat).Kind
def isStmF (ns : List DNode) (y : Int) : Bool := inNd ns y && isStmK (ndF ns y.toNat).Kind
def isBlkF (ns : List DNode) (y : Int) : Bool := inNd ns y && isBlkK (ndF ns y.toNat).Kind
theorem kid_val {ns : List DNode} {k : Nat} {y : Int} (hk : k < ns.length) (h : 0 ≤ y ∧ y ≤ (k : Int) - 1) : isValF ns y = isValK (kidK ns k y) ∧ isStmF ns y = isStmK (kidK ns k y) ∧ isBlkF ns y = isBlkK (kidK ns k y) := by
  have h1 : inNd ns y = true := by unfold inNd; exact decide_eq_true (by omega)
  unfold isValF isStmF isBlkF kidK
  rw [h1, if_pos h]
  simp
def vbF (ns : List DNode) (k v : Nat) : Nat → List Int → Bool
  | _, [] => true
  | i, x :: r => (if i < v then isValK (kidK ns k x) else isBlkK (kidK ns k x)) && vbF ns k v (i + 1) r
theorem vbF_eq {ns : List DNode} {k v : Nat} : ∀ {i : Nat} {xs : List Int}, vbF ns k v i xs = (valsB ns k (xs.take (v - i)) && blksB ns k (xs.drop (v - i)))
  | i, [] => by simp [vbF, valsB, blksB]
  | i, x :: r => by
    unfold vbF
    rw [vbF_eq (i := i + 1) (xs := r)]
    by_cases h : i < v
    · rw [if_pos h, show v - i = (v - (i + 1)) + 1 by omega, List.take_succ_cons, List.drop_succ_cons]
      simp [valsB, Bool.and_assoc]
    · rw [if_neg h, show v - i = 0 by omega, show v - (i + 1) = 0 by omega]
      simp [valsB, blksB]
theorem sem_impl_isNode (p : DProgram) (hp : p.Nodes.length ≤ 1099511627776) (y : Int) : S_impl_isNode.sem [.agg (cProgram p), .int .i64 y] = some (.bool (inNd p.Nodes y), []) := by
  have hw : IntKind.wrap .i64 ((p.Nodes.length : Int) - 1) = (p.Nodes.length : Int) - 1 := wrapI (by omega) (by omega)
  rw [sg_impl_isNode, sem_go]
  simp (maxSteps := 10000000) (disch := first | assumption | omega) only [cProgram, F_impl_isNode, params, EG, EL, ↓reduceIte, Nat.reduceEqDiff, Nat.reduceAdd, Nat.reduceSub, Nat.reduceMul, Nat.reduceLeDiff, Nat.reduceLT, Int.reduceLT, Int.reduceLE, Int.reduceEq, Int.reduceToNat, reduceCtorEq, FB, ED, FT, cx_impl_isNode, cl_impl_within, sem_impl_within, hw, inNd]
theorem sem_impl_isValue (p : DProgram) (hp : p.Nodes.length ≤ 1099511627776) (y : Int) : S_impl_isValue.sem [.agg (cProgram p), .int .i64 y] = some (.bool (isValF p.Nodes y), []) := by
  have hn := sem_impl_isNode p hp y
  rw [sg_impl_isValue, sem_go]
  unfold isValF
  cases h : inNd p.Nodes y
  · rw [h] at hn
    simp only [cProgram] at hn
    simp (maxSteps := 10000000) (disch := first | assumption | omega) only [cProgram, F_impl_isValue, params, EG, EL, ↓reduceIte, Nat.reduceEqDiff, Nat.reduceAdd, Nat.reduceSub, Nat.reduceMul, Nat.reduceLeDiff, Nat.reduceLT, Int.reduceLT, Int.reduceLE, Int.reduceEq, Int.reduceToNat, reduceCtorEq, FB, ED, FT, cx_impl_isValue, cl_impl_isNode, hn, Bool.false_and]
  · rw [h] at hn
    simp only [cProgram] at hn
    unfold inNd at h
    have h' := of_decide_eq_true h
    obtain ⟨n, rfl⟩ : ∃ n : Nat, y = (n : Int) := ⟨y.toNat, by omega⟩
    have hk : n < p.Nodes.length := by omega
    have hk' : (n : Int) < (p.Nodes.length : Int) := by omega
    have hg := getRowN p.Nodes hk
    simp (maxSteps := 10000000) (disch := first | assumption | omega) only [cProgram, F_impl_isValue, params, EG, EL, ↓reduceIte, Nat.reduceEqDiff, Nat.reduceAdd, Nat.reduceSub, Nat.reduceMul, Nat.reduceLeDiff, Nat.reduceLT, Int.reduceLT, Int.reduceLE, Int.reduceEq, Int.reduceToNat, reduceCtorEq, FB, ED, FT, cx_impl_isValue, cl_impl_isNode, hn, cl_impl_within, sem_impl_within, hk, hk', hg, isValK, Bool.true_and]
theorem sem_impl_isStatement (p : DProgram) (hp : p.Nodes.length ≤ 1099511627776) (y : Int) : S_impl_isStatement.sem [.agg (cProgram p), .int .i64 y] = some (.bool (isStmF p.Nodes y), []) := by
  have hn := sem_impl_isNode p hp y
  rw [sg_impl_isStatement, sem_go]
  unfold isStmF
  cases h : inNd p.Nodes y
  · rw [h] at hn
    simp only [cProgram] at hn
    simp (maxSteps := 10000000) (disch := first | assumption | omega) only [cProgram, F_impl_isStatement, params, EG, EL, ↓reduceIte, Nat.reduceEqDiff, Nat.reduceAdd, Nat.reduceSub, Nat.reduceMul, Nat.reduceLeDiff, Nat.reduceLT, Int.reduceLT, Int.reduceLE, Int.reduceEq, Int.reduceToNat, reduceCtorEq, FB, ED, FT, cx_impl_isStatement, cl_impl_isNode, hn, Bool.false_and]
  · rw [h] at hn
    simp only [cProgram] at hn
    unfold inNd at h
    have h' := of_decide_eq_true h
    obtain ⟨n, rfl⟩ : ∃ n : Nat, y = (n : Int) := ⟨y.toNat, by omega⟩
    have hk : n < p.Nodes.length := by omega
    have hk' : (n : Int) < (p.Nodes.length : Int) := by omega
    have hg := getRowN p.Nodes hk
    simp (maxSteps := 10000000) (disch := first | assumption | omega) only [cProgram, F_impl_isStatement, params, EG, EL, ↓reduceIte, Nat.reduceEqDiff, Nat.reduceAdd, Nat.reduceSub, Nat.reduceMul, Nat.reduceLeDiff, Nat.reduceLT, Int.reduceLT, Int.reduceLE, Int.reduceEq, Int.reduceToNat, reduceCtorEq, FB, ED, FT, cx_impl_isStatement, cl_impl_isNode, hn, cl_impl_within, sem_impl_within, hk, hk', hg, isStmK, Bool.true_and]
theorem sem_impl_isBlock (p : DProgram) (hp : p.Nodes.length ≤ 1099511627776) (y : Int) : S_impl_isBlock.sem [.agg (cProgram p), .int .i64 y] = some (.bool (isBlkF p.Nodes y), []) := by
  have hn := sem_impl_isNode p hp y
  rw [sg_impl_isBlock, sem_go]
  unfold isBlkF
  cases h : inNd p.Nodes y
  · rw [h] at hn
    simp only [cProgram] at hn
    simp (maxSteps := 10000000) (disch := first | assumption | omega) only [cProgram, F_impl_isBlock, params, EG, EL, ↓reduceIte, Nat.reduceEqDiff, Nat.reduceAdd, Nat.reduceSub, Nat.reduceMul, Nat.reduceLeDiff, Nat.reduceLT, Int.reduceLT, Int.reduceLE, Int.reduceEq, Int.reduceToNat, reduceCtorEq, FB, ED, FT, cx_impl_isBlock, cl_impl_isNode, hn, Bool.false_and]
  · rw [h] at hn
    simp only [cProgram] at hn
    unfold inNd at h
    have h' := of_decide_eq_true h
    obtain ⟨n, rfl⟩ : ∃ n : Nat, y = (n : Int) := ⟨y.toNat, by omega⟩
    have hk : n < p.Nodes.length := by omega
    have hk' : (n : Int) < (p.Nodes.length : Int) := by omega
    have hg := getRowN p.Nodes hk
    simp (maxSteps := 10000000) (disch := first | assumption | omega) only [cProgram, F_impl_isBlock, params, EG, EL, ↓reduceIte, Nat.reduceEqDiff, Nat.reduceAdd, Nat.reduceSub, Nat.reduceMul, Nat.reduceLeDiff, Nat.reduceLT, Int.reduceLT, Int.reduceLE, Int.reduceEq, Int.reduceToNat, reduceCtorEq, FB, ED, FT, cx_impl_isBlock, cl_impl_isNode, hn, hk, hk', hg, isBlkK, Bool.true_and]
theorem loop0_impl_kidsOk (p : DProgram) (hp : gdN p) (k : Nat) (hk : k < p.Nodes.length) (x : DNode) (hxl : x.Kids.length ≤ 1099511627776) (hx : ∀ y ∈ x.Kids, 0 ≤ y ∧ y ≤ (k : Int) - 1) : loopV X_impl_kidsOk 0 [2, 3, 35, 36, 37] [(2, [3]), (0, [4])] B0_impl_kidsOk ⟨[(2, .ptr ⟨0, none, 0⟩ 3 0 0), (3, .ptr ⟨1, none, 0⟩ 6 0 0), (35, .tree 1 (x.Kids.map cI)), (36, .int .i64 (x.Kids.length : Int)), (37, .int .i64 0)], [some ⟨true, 0, 3, [[.tree 6 (p.Nodes.map cNode), .tree 4 (p.Monitors.map cMonitor), .tree 4 (p.Processes.map cProcess)]]⟩, some ⟨true, 0, 6, [[.int .i64 x.Kind, .int .i64 x.Num, .str x.Name, .str x.More, .str x.To, .tree 1 (x.Kids.map cI)]]⟩]⟩ = okR (stmsB p.Nodes k x.Kids) 1 ⟨[(3, .ptr ⟨0, none, 0⟩ 6 0 0)], [some ⟨true, 0, 6, [[.int .i64 x.Kind, .int .i64 x.Num, .str x.Name, .str x.More, .str x.To, .tree 1 (x.Kids.map cI)]]⟩]⟩ 4 := by
  refine loop_list x.Kids (fun _ (_ : Unit) => True) (fun i _ => ⟨[(2, .ptr ⟨0, none, 0⟩ 3 0 0), (3, .ptr ⟨1, none, 0⟩ 6 0 0), (35, .tree 1 (x.Kids.map cI)), (36, .int .i64 (x.Kids.length : Int)), (37, .int .i64 ((i : Nat) : Int))], [some ⟨true, 0, 3, [[.tree 6 (p.Nodes.map cNode), .tree 4 (p.Monitors.map cMonitor), .tree 4 (p.Processes.map cProcess)]]⟩, some ⟨true, 0, 6, [[.int .i64 x.Kind, .int .i64 x.Num, .str x.Name, .str x.More, .str x.To, .tree 1 (x.Kids.map cI)]]⟩]⟩) (fun rest _ => okR (stmsB p.Nodes k rest) 1 ⟨[(3, .ptr ⟨0, none, 0⟩ 6 0 0)], [some ⟨true, 0, 6, [[.int .i64 x.Kind, .int .i64 x.Num, .str x.Name, .str x.More, .str x.To, .tree 1 (x.Kids.map cI)]]⟩]⟩ 4) ?_ ?_ () trivial
  · intro _ _
    rw [loopV_by B0_impl_kidsOk.eq_1]
    simp only [EG, EL, ↓reduceIte, Nat.reduceEqDiff, Nat.reduceAdd, Nat.reduceSub, Nat.reduceMul, Nat.reduceLeDiff, Nat.reduceLT, Int.reduceLT, Int.reduceLE, Int.reduceEq, Int.reduceToNat, reduceCtorEq, FB, ED, int_lt_irrefl, stmsB, List.all_nil, okR_true]
  · rintro i hi0 y rest _ rfl rfl _ ih
    have hi : (i : Int) < (x.Kids.length : Int) := by omega
    have hgi := getRow cI x.Kids hi0
    have hxy := hx _ (List.getElem_mem hi0)
    have i1 := ih () trivial
    rw [loopV_by B0_impl_kidsOk.eq_1]
    generalize x.Kids[i] = y at hgi hxy ⊢
    have hq := sem_impl_isStatement p hp.1 y
    rw [(kid_val hk hxy).2.1] at hq
    simp only [cProgram] at hq
    unfold stmsB at i1 ⊢
    rw [List.all_cons]
    cases hv : isStmK (kidK p.Nodes k y)
    all_goals rw [hv] at hq
    all_goals simp (maxSteps := 10000000) (disch := first | assumption | omega) only [EG, EL, ↓reduceIte, Nat.reduceEqDiff, Nat.reduceAdd, Nat.reduceSub, Nat.reduceMul, Nat.reduceLeDiff, Nat.reduceLT, Int.reduceLT, Int.reduceLE, Int.reduceEq, Int.reduceToNat, reduceCtorEq, FB, ED, FT, cx_impl_kidsOk, cl_impl_isStatement, hq, hi, hi0, hgi, hv, wrap_succ, Bool.true_and, Bool.false_and, okR_false, i1]
theorem loop1_impl_kidsOk (p : DProgram) (hp : gdN p) (k : Nat) (hk : k < p.Nodes.length) (v : Nat) (xs : List Int) (hxl : xs.length ≤ 1099511627776) (hx : ∀ y ∈ xs, 0 ≤ y ∧ y ≤ (k : Int) - 1) : loopV X_impl_kidsOk 0 [2, 5, 58, 59, 60] [(4, []), (0, [4])] B1_impl_kidsOk ⟨[(2, .ptr ⟨0, none, 0⟩ 3 0 0), (5, .int .i64 (v : Int)), (58, .tree 1 (xs.map cI)), (59, .int .i64 (xs.length : Int)), (60, .int .i64 0)], [some ⟨true, 0, 3, [[.tree 6 (p.Nodes.map cNode), .tree 4 (p.Monitors.map cMonitor), .tree 4 (p.Processes.map cProcess)]]⟩]⟩ = okR (vbF p.Nodes k v 0 xs) 3 ⟨[], []⟩ 4 := by
  refine loop_list xs (fun i (a : Nat) => a = i) (fun i _ => ⟨[(2, .ptr ⟨0, none, 0⟩ 3 0 0), (5, .int .i64 (v : Int)), (58, .tree 1 (xs.map cI)), (59, .int .i64 (xs.length : Int)), (60, .int .i64 ((i : Nat) : Int))], [some ⟨true, 0, 3, [[.tree 6 (p.Nodes.map cNode), .tree 4 (p.Monitors.map cMonitor), .tree 4 (p.Processes.map cProcess)]]⟩]⟩) (fun rest a => okR (vbF p.Nodes k v a rest) 3 ⟨[], []⟩ 4) ?_ ?_ 0 rfl
  · rintro a rfl
    rw [loopV_by B1_impl_kidsOk.eq_1]
    simp only [EG, EL, ↓reduceIte, Nat.reduceEqDiff, Nat.reduceAdd, Nat.reduceSub, Nat.reduceMul, Nat.reduceLeDiff, Nat.reduceLT, Int.reduceLT, Int.reduceLE, Int.reduceEq, Int.reduceToNat, reduceCtorEq, FB, ED, int_lt_irrefl, vbF, okR_true]
  · rintro i hi0 y rest a rfl rfl rfl ih
    have hi : (a : Int) < (xs.length : Int) := by omega
    have hgi := getRow cI xs hi0
    have hxy := hx _ (List.getElem_mem hi0)
    have i1 := ih (a + 1) rfl
    rw [loopV_by B1_impl_kidsOk.eq_1]
    generalize xs[a] = y at hgi hxy ⊢
    have hq := sem_impl_isValue p hp.1 y
    rw [(kid_val hk hxy).1] at hq
    have hb := sem_impl_isBlock p hp.1 y
    rw [(kid_val hk hxy).2.2] at hb
    simp only [cProgram] at hq hb
    unfold vbF
    by_cases hlt : a < v
    · have h1 : ((a : Int) < (v : Int)) = True := eq_true (by omega)
      have h2 : ((v : Int) ≤ (a : Int)) = False := eq_false (by omega)
      rw [if_pos hlt]
      cases hv : isValK (kidK p.Nodes k y)
      all_goals rw [hv] at hq
      all_goals simp (maxSteps := 10000000) (disch := first | assumption | omega) only [EG, EL, ↓reduceIte, Nat.reduceEqDiff, Nat.reduceAdd, Nat.reduceSub, Nat.reduceMul, Nat.reduceLeDiff, Nat.reduceLT, Int.reduceLT, Int.reduceLE, Int.reduceEq, Int.reduceToNat, reduceCtorEq, FB, ED, FT, cx_impl_kidsOk, cl_impl_isValue, hq, cl_impl_isBlock, hb, hi, hi0, hgi, h1, h2, ge_iff_le, wrap_succ, Bool.true_and, Bool.false_and, okR_false, i1, decide_true, decide_false]
    · have h1 : ((a : Int) < (v : Int)) = False := eq_false (by omega)
      have h2 : ((v : Int) ≤ (a : Int)) = True := eq_true (by omega)
      rw [if_neg hlt]
      cases hv : isBlkK (kidK p.Nodes k y)
      all_goals rw [hv] at hb
      all_goals simp (maxSteps := 10000000) (disch := first | assumption | omega) only [EG, EL, ↓reduceIte, Nat.reduceEqDiff, Nat.reduceAdd, Nat.reduceSub, Nat.reduceMul, Nat.reduceLeDiff, Nat.reduceLT, Int.reduceLT, Int.reduceLE, Int.reduceEq, Int.reduceToNat, reduceCtorEq, FB, ED, FT, cx_impl_kidsOk, cl_impl_isValue, hq, cl_impl_isBlock, hb, hi, hi0, hgi, h1, h2, ge_iff_le, wrap_succ, Bool.true_and, Bool.false_and, okR_false, i1, decide_true, decide_false]
set_option maxHeartbeats 4000000 in
theorem sem_impl_kidsOk (p : DProgram) (hp : gdN p) (k : Nat) (hk : k < p.Nodes.length) (x : DNode) (hxl : x.Kids.length ≤ 1099511627776) (hx : ∀ y ∈ x.Kids, 0 ≤ y ∧ y ≤ (k : Int) - 1) (hkd : kindB x.Kind = true) : S_impl_kidsOk.sem [.agg (cProgram p), .agg (cNode x)] = some (.bool (kidsF p.Nodes k x.Kind x.Kids), []) := by
  have lp := loop0_impl_kidsOk p hp k hk x hxl hx
  have l0 := loop1_impl_kidsOk p hp k hk 0 x.Kids hxl hx
  have l1 := loop1_impl_kidsOk p hp k hk 1 x.Kids hxl hx
  have l2 := loop1_impl_kidsOk p hp k hk 2 x.Kids hxl hx
  rw [vbF_eq] at l0 l1 l2
  simp only [cast_lit, Nat.sub_zero] at l0 l1 l2
  have hcase : x.Kind = 1 ∨ x.Kind = 2 ∨ x.Kind = 3 ∨ x.Kind = 4 ∨ x.Kind = 5 ∨ x.Kind = 11 ∨ x.Kind = 12 ∨ x.Kind = 13 ∨ x.Kind = 14 ∨ x.Kind = 15 ∨ x.Kind = 16 ∨ x.Kind = 17 ∨ x.Kind = 18 ∨ x.Kind = 19 ∨ x.Kind = 20 := by
    unfold kindB isValK isStmK isBlkK at hkd
    simp only [Bool.or_eq_true, decide_eq_true_eq] at hkd
    omega
  have w0 : IntKind.wrap .i64 0 = 0 := by decide
  have w1 : IntKind.wrap .i64 1 = 1 := by decide
  have w2 : IntKind.wrap .i64 2 = 2 := by decide
  have wl : IntKind.wrap .i64 ((x.Kids.length : Int) - 1) = (x.Kids.length : Int) - 1 := wrapI (by omega) (by omega)
  have wm : IntKind.wrap .i64 (1 + ((x.Kids.length : Int) - 1)) = (x.Kids.length : Int) := by rw [wrapI (by omega) (by omega)]; omega
  rw [sg_impl_kidsOk, sem_go]
  rcases hcase with hK | hK | hK | hK | hK | hK | hK | hK | hK | hK | hK | hK | hK | hK | hK
  all_goals rw [hK] at lp
  · by_cases hz : x.Kids = []
    · rw [hz] at l0 lp
      simp only [EG, EL, ↓reduceIte, Nat.reduceEqDiff, Nat.reduceAdd, Nat.reduceSub, Nat.reduceMul, Nat.reduceLeDiff, Nat.reduceLT, Int.reduceLT, Int.reduceLE, Int.reduceEq, Int.reduceToNat, reduceCtorEq, FB] at l0
      simp only [valsB, blksB, List.take_nil, List.drop_nil, List.all_nil, Bool.and_self, okR_true] at l0
      simp (maxSteps := 10000000) (disch := first | assumption | omega) only [cProgram, cNode, F_impl_kidsOk, params, EG, EL, ↓reduceIte, Nat.reduceEqDiff, Nat.reduceAdd, Nat.reduceSub, Nat.reduceMul, Nat.reduceLeDiff, Nat.reduceLT, Int.reduceLT, Int.reduceLE, Int.reduceEq, Int.reduceToNat, reduceCtorEq, FB, ED, FT, cx_impl_kidsOk, hK, kidsF, Int.reduceAdd, w0, w1, w2, wl, wm, cl_impl_within, sem_impl_within, BB, hz, l0]
    · have hn : ((x.Kids.length : Int) = 0) = False := eq_false (by have := List.length_pos_iff.2 hz; omega)
      have hn2 : (x.Kids.length = 0) = False := eq_false (by have := List.length_pos_iff.2 hz; omega)
      simp (maxSteps := 10000000) (disch := first | assumption | omega) only [cProgram, cNode, F_impl_kidsOk, params, EG, EL, ↓reduceIte, Nat.reduceEqDiff, Nat.reduceAdd, Nat.reduceSub, Nat.reduceMul, Nat.reduceLeDiff, Nat.reduceLT, Int.reduceLT, Int.reduceLE, Int.reduceEq, Int.reduceToNat, reduceCtorEq, FB, ED, FT, cx_impl_kidsOk, hK, kidsF, Int.reduceAdd, w0, w1, w2, wl, wm, cl_impl_within, sem_impl_within, BB, hn, hn2]
  · by_cases hz : x.Kids = []
    · rw [hz] at l0 lp
      simp only [EG, EL, ↓reduceIte, Nat.reduceEqDiff, Nat.reduceAdd, Nat.reduceSub, Nat.reduceMul, Nat.reduceLeDiff, Nat.reduceLT, Int.reduceLT, Int.reduceLE, Int.reduceEq, Int.reduceToNat, reduceCtorEq, FB] at l0
      simp only [valsB, blksB, List.take_nil, List.drop_nil, List.all_nil, Bool.and_self, okR_true] at l0
      simp (maxSteps := 10000000) (disch := first | assumption | omega) only [cProgram, cNode, F_impl_kidsOk, params, EG, EL, ↓reduceIte, Nat.reduceEqDiff, Nat.reduceAdd, Nat.reduceSub, Nat.reduceMul, Nat.reduceLeDiff, Nat.reduceLT, Int.reduceLT, Int.reduceLE, Int.reduceEq, Int.reduceToNat, reduceCtorEq, FB, ED, FT, cx_impl_kidsOk, hK, kidsF, Int.reduceAdd, w0, w1, w2, wl, wm, cl_impl_within, sem_impl_within, BB, hz, l0]
    · have hn : ((x.Kids.length : Int) = 0) = False := eq_false (by have := List.length_pos_iff.2 hz; omega)
      have hn2 : (x.Kids.length = 0) = False := eq_false (by have := List.length_pos_iff.2 hz; omega)
      simp (maxSteps := 10000000) (disch := first | assumption | omega) only [cProgram, cNode, F_impl_kidsOk, params, EG, EL, ↓reduceIte, Nat.reduceEqDiff, Nat.reduceAdd, Nat.reduceSub, Nat.reduceMul, Nat.reduceLeDiff, Nat.reduceLT, Int.reduceLT, Int.reduceLE, Int.reduceEq, Int.reduceToNat, reduceCtorEq, FB, ED, FT, cx_impl_kidsOk, hK, kidsF, Int.reduceAdd, w0, w1, w2, wl, wm, cl_impl_within, sem_impl_within, BB, hn, hn2]
  · by_cases h2 : x.Kids.length = 2
    · have hn : ((x.Kids.length : Int) = 2) = True := eq_true (by omega)
      have h2' : (x.Kids.length = 2) = True := eq_true h2
      have hdr : x.Kids.drop 2 = [] := List.drop_eq_nil_of_le (by omega)
      cases hv : valsB p.Nodes k (x.Kids.take 2)
      all_goals rw [hv] at l2
      all_goals simp only [Bool.true_and, Bool.false_and] at l2
      · rw [okR_false] at l2
        simp (maxSteps := 10000000) (disch := first | assumption | omega) only [cProgram, cNode, F_impl_kidsOk, params, EG, EL, ↓reduceIte, Nat.reduceEqDiff, Nat.reduceAdd, Nat.reduceSub, Nat.reduceMul, Nat.reduceLeDiff, Nat.reduceLT, Int.reduceLT, Int.reduceLE, Int.reduceEq, Int.reduceToNat, reduceCtorEq, FB, ED, FT, cx_impl_kidsOk, hK, kidsF, Int.reduceAdd, w0, w1, w2, wl, wm, cl_impl_within, sem_impl_within, BB, hn, h2', hv, l2]
      · cases hb : blksB p.Nodes k (x.Kids.drop 2)
        all_goals rw [hb] at l2
        · rw [okR_false] at l2
          exfalso; rw [hdr] at hb; simp [blksB] at hb
        · rw [okR_true] at l2
          simp (maxSteps := 10000000) (disch := first | assumption | omega) only [cProgram, cNode, F_impl_kidsOk, params, EG, EL, ↓reduceIte, Nat.reduceEqDiff, Nat.reduceAdd, Nat.reduceSub, Nat.reduceMul, Nat.reduceLeDiff, Nat.reduceLT, Int.reduceLT, Int.reduceLE, Int.reduceEq, Int.reduceToNat, reduceCtorEq, FB, ED, FT, cx_impl_kidsOk, hK, kidsF, Int.reduceAdd, w0, w1, w2, wl, wm, cl_impl_within, sem_impl_within, BB, hn, h2', hv, hb, l2]
    · have hn : ((x.Kids.length : Int) = 2) = False := eq_false (by omega)
      have h2' : (x.Kids.length = 2) = False := eq_false h2
      simp (maxSteps := 10000000) (disch := first | assumption | omega) only [cProgram, cNode, F_impl_kidsOk, params, EG, EL, ↓reduceIte, Nat.reduceEqDiff, Nat.reduceAdd, Nat.reduceSub, Nat.reduceMul, Nat.reduceLeDiff, Nat.reduceLT, Int.reduceLT, Int.reduceLE, Int.reduceEq, Int.reduceToNat, reduceCtorEq, FB, ED, FT, cx_impl_kidsOk, hK, kidsF, Int.reduceAdd, w0, w1, w2, wl, wm, cl_impl_within, sem_impl_within, BB, hn, h2']
  · by_cases h2 : x.Kids.length = 1
    · have hn : ((x.Kids.length : Int) = 1) = True := eq_true (by omega)
      have h2' : (x.Kids.length = 1) = True := eq_true h2
      have hdr : x.Kids.drop 1 = [] := List.drop_eq_nil_of_le (by omega)
      cases hv : valsB p.Nodes k (x.Kids.take 1)
      all_goals rw [hv] at l1
      all_goals simp only [Bool.true_and, Bool.false_and] at l1
      · rw [okR_false] at l1
        simp (maxSteps := 10000000) (disch := first | assumption | omega) only [cProgram, cNode, F_impl_kidsOk, params, EG, EL, ↓reduceIte, Nat.reduceEqDiff, Nat.reduceAdd, Nat.reduceSub, Nat.reduceMul, Nat.reduceLeDiff, Nat.reduceLT, Int.reduceLT, Int.reduceLE, Int.reduceEq, Int.reduceToNat, reduceCtorEq, FB, ED, FT, cx_impl_kidsOk, hK, kidsF, Int.reduceAdd, w0, w1, w2, wl, wm, cl_impl_within, sem_impl_within, BB, hn, h2', hv, l1]
      · cases hb : blksB p.Nodes k (x.Kids.drop 1)
        all_goals rw [hb] at l1
        · rw [okR_false] at l1
          exfalso; rw [hdr] at hb; simp [blksB] at hb
        · rw [okR_true] at l1
          simp (maxSteps := 10000000) (disch := first | assumption | omega) only [cProgram, cNode, F_impl_kidsOk, params, EG, EL, ↓reduceIte, Nat.reduceEqDiff, Nat.reduceAdd, Nat.reduceSub, Nat.reduceMul, Nat.reduceLeDiff, Nat.reduceLT, Int.reduceLT, Int.reduceLE, Int.reduceEq, Int.reduceToNat, reduceCtorEq, FB, ED, FT, cx_impl_kidsOk, hK, kidsF, Int.reduceAdd, w0, w1, w2, wl, wm, cl_impl_within, sem_impl_within, BB, hn, h2', hv, hb, l1]
    · have hn : ((x.Kids.length : Int) = 1) = False := eq_false (by omega)
      have h2' : (x.Kids.length = 1) = False := eq_false h2
      simp (maxSteps := 10000000) (disch := first | assumption | omega) only [cProgram, cNode, F_impl_kidsOk, params, EG, EL, ↓reduceIte, Nat.reduceEqDiff, Nat.reduceAdd, Nat.reduceSub, Nat.reduceMul, Nat.reduceLeDiff, Nat.reduceLT, Int.reduceLT, Int.reduceLE, Int.reduceEq, Int.reduceToNat, reduceCtorEq, FB, ED, FT, cx_impl_kidsOk, hK, kidsF, Int.reduceAdd, w0, w1, w2, wl, wm, cl_impl_within, sem_impl_within, BB, hn, h2']
  · by_cases h2 : x.Kids.length = 1
    · have hn : ((x.Kids.length : Int) = 1) = True := eq_true (by omega)
      have h2' : (x.Kids.length = 1) = True := eq_true h2
      have hdr : x.Kids.drop 1 = [] := List.drop_eq_nil_of_le (by omega)
      cases hv : valsB p.Nodes k (x.Kids.take 1)
      all_goals rw [hv] at l1
      all_goals simp only [Bool.true_and, Bool.false_and] at l1
      · rw [okR_false] at l1
        simp (maxSteps := 10000000) (disch := first | assumption | omega) only [cProgram, cNode, F_impl_kidsOk, params, EG, EL, ↓reduceIte, Nat.reduceEqDiff, Nat.reduceAdd, Nat.reduceSub, Nat.reduceMul, Nat.reduceLeDiff, Nat.reduceLT, Int.reduceLT, Int.reduceLE, Int.reduceEq, Int.reduceToNat, reduceCtorEq, FB, ED, FT, cx_impl_kidsOk, hK, kidsF, Int.reduceAdd, w0, w1, w2, wl, wm, cl_impl_within, sem_impl_within, BB, hn, h2', hv, l1]
      · cases hb : blksB p.Nodes k (x.Kids.drop 1)
        all_goals rw [hb] at l1
        · rw [okR_false] at l1
          exfalso; rw [hdr] at hb; simp [blksB] at hb
        · rw [okR_true] at l1
          simp (maxSteps := 10000000) (disch := first | assumption | omega) only [cProgram, cNode, F_impl_kidsOk, params, EG, EL, ↓reduceIte, Nat.reduceEqDiff, Nat.reduceAdd, Nat.reduceSub, Nat.reduceMul, Nat.reduceLeDiff, Nat.reduceLT, Int.reduceLT, Int.reduceLE, Int.reduceEq, Int.reduceToNat, reduceCtorEq, FB, ED, FT, cx_impl_kidsOk, hK, kidsF, Int.reduceAdd, w0, w1, w2, wl, wm, cl_impl_within, sem_impl_within, BB, hn, h2', hv, hb, l1]
    · have hn : ((x.Kids.length : Int) = 1) = False := eq_false (by omega)
      have h2' : (x.Kids.length = 1) = False := eq_false h2
      simp (maxSteps := 10000000) (disch := first | assumption | omega) only [cProgram, cNode, F_impl_kidsOk, params, EG, EL, ↓reduceIte, Nat.reduceEqDiff, Nat.reduceAdd, Nat.reduceSub, Nat.reduceMul, Nat.reduceLeDiff, Nat.reduceLT, Int.reduceLT, Int.reduceLE, Int.reduceEq, Int.reduceToNat, reduceCtorEq, FB, ED, FT, cx_impl_kidsOk, hK, kidsF, Int.reduceAdd, w0, w1, w2, wl, wm, cl_impl_within, sem_impl_within, BB, hn, h2']
  · by_cases h2 : x.Kids.length = 1
    · have hn : ((x.Kids.length : Int) = 1) = True := eq_true (by omega)
      have h2' : (x.Kids.length = 1) = True := eq_true h2
      have hdr : x.Kids.drop 1 = [] := List.drop_eq_nil_of_le (by omega)
      cases hv : valsB p.Nodes k (x.Kids.take 1)
      all_goals rw [hv] at l1
      all_goals simp only [Bool.true_and, Bool.false_and] at l1
      · rw [okR_false] at l1
        simp (maxSteps := 10000000) (disch := first | assumption | omega) only [cProgram, cNode, F_impl_kidsOk, params, EG, EL, ↓reduceIte, Nat.reduceEqDiff, Nat.reduceAdd, Nat.reduceSub, Nat.reduceMul, Nat.reduceLeDiff, Nat.reduceLT, Int.reduceLT, Int.reduceLE, Int.reduceEq, Int.reduceToNat, reduceCtorEq, FB, ED, FT, cx_impl_kidsOk, hK, kidsF, Int.reduceAdd, w0, w1, w2, wl, wm, cl_impl_within, sem_impl_within, BB, hn, h2', hv, l1]
      · cases hb : blksB p.Nodes k (x.Kids.drop 1)
        all_goals rw [hb] at l1
        · rw [okR_false] at l1
          exfalso; rw [hdr] at hb; simp [blksB] at hb
        · rw [okR_true] at l1
          simp (maxSteps := 10000000) (disch := first | assumption | omega) only [cProgram, cNode, F_impl_kidsOk, params, EG, EL, ↓reduceIte, Nat.reduceEqDiff, Nat.reduceAdd, Nat.reduceSub, Nat.reduceMul, Nat.reduceLeDiff, Nat.reduceLT, Int.reduceLT, Int.reduceLE, Int.reduceEq, Int.reduceToNat, reduceCtorEq, FB, ED, FT, cx_impl_kidsOk, hK, kidsF, Int.reduceAdd, w0, w1, w2, wl, wm, cl_impl_within, sem_impl_within, BB, hn, h2', hv, hb, l1]
    · have hn : ((x.Kids.length : Int) = 1) = False := eq_false (by omega)
      have h2' : (x.Kids.length = 1) = False := eq_false h2
      simp (maxSteps := 10000000) (disch := first | assumption | omega) only [cProgram, cNode, F_impl_kidsOk, params, EG, EL, ↓reduceIte, Nat.reduceEqDiff, Nat.reduceAdd, Nat.reduceSub, Nat.reduceMul, Nat.reduceLeDiff, Nat.reduceLT, Int.reduceLT, Int.reduceLE, Int.reduceEq, Int.reduceToNat, reduceCtorEq, FB, ED, FT, cx_impl_kidsOk, hK, kidsF, Int.reduceAdd, w0, w1, w2, wl, wm, cl_impl_within, sem_impl_within, BB, hn, h2']
  · by_cases hr : x.Kids.length = 2 ∨ x.Kids.length = 3
    · have hn : ((1 : Int) ≤ (x.Kids.length : Int) - 1 ∧ (x.Kids.length : Int) - 1 ≤ 2) = True := eq_true (by omega)
      have hr' : (x.Kids.length = 2 ∨ x.Kids.length = 3) = True := eq_true hr
      have hn1 : ((1 : Int) ≤ (x.Kids.length : Int) - 1) = True := eq_true (by omega)
      have hn2 : ((x.Kids.length : Int) - 1 ≤ 2) = True := eq_true (by omega)
      cases hv : valsB p.Nodes k (x.Kids.take 1)
      all_goals rw [hv] at l1
      all_goals simp only [Bool.true_and, Bool.false_and] at l1
      · rw [okR_false] at l1
        simp (maxSteps := 10000000) (disch := first | assumption | omega) only [cProgram, cNode, F_impl_kidsOk, params, EG, EL, ↓reduceIte, Nat.reduceEqDiff, Nat.reduceAdd, Nat.reduceSub, Nat.reduceMul, Nat.reduceLeDiff, Nat.reduceLT, Int.reduceLT, Int.reduceLE, Int.reduceEq, Int.reduceToNat, reduceCtorEq, FB, ED, FT, cx_impl_kidsOk, hK, kidsF, Int.reduceAdd, w0, w1, w2, wl, wm, cl_impl_within, sem_impl_within, BB, hn, hn1, hn2, hr', hv, l1]
      · cases hb : blksB p.Nodes k (x.Kids.drop 1)
        all_goals rw [hb] at l1
        · rw [okR_false] at l1
          simp (maxSteps := 10000000) (disch := first | assumption | omega) only [cProgram, cNode, F_impl_kidsOk, params, EG, EL, ↓reduceIte, Nat.reduceEqDiff, Nat.reduceAdd, Nat.reduceSub, Nat.reduceMul, Nat.reduceLeDiff, Nat.reduceLT, Int.reduceLT, Int.reduceLE, Int.reduceEq, Int.reduceToNat, reduceCtorEq, FB, ED, FT, cx_impl_kidsOk, hK, kidsF, Int.reduceAdd, w0, w1, w2, wl, wm, cl_impl_within, sem_impl_within, BB, hn, hn1, hn2, hr', hv, hb, l1]
        · rw [okR_true] at l1
          simp (maxSteps := 10000000) (disch := first | assumption | omega) only [cProgram, cNode, F_impl_kidsOk, params, EG, EL, ↓reduceIte, Nat.reduceEqDiff, Nat.reduceAdd, Nat.reduceSub, Nat.reduceMul, Nat.reduceLeDiff, Nat.reduceLT, Int.reduceLT, Int.reduceLE, Int.reduceEq, Int.reduceToNat, reduceCtorEq, FB, ED, FT, cx_impl_kidsOk, hK, kidsF, Int.reduceAdd, w0, w1, w2, wl, wm, cl_impl_within, sem_impl_within, BB, hn, hn1, hn2, hr', hv, hb, l1]
    · have hn : ((1 : Int) ≤ (x.Kids.length : Int) - 1 ∧ (x.Kids.length : Int) - 1 ≤ 2) = False := eq_false (by omega)
      have hr' : (x.Kids.length = 2 ∨ x.Kids.length = 3) = False := eq_false hr
      simp (maxSteps := 10000000) (disch := first | assumption | omega) only [cProgram, cNode, F_impl_kidsOk, params, EG, EL, ↓reduceIte, Nat.reduceEqDiff, Nat.reduceAdd, Nat.reduceSub, Nat.reduceMul, Nat.reduceLeDiff, Nat.reduceLT, Int.reduceLT, Int.reduceLE, Int.reduceEq, Int.reduceToNat, reduceCtorEq, FB, ED, FT, cx_impl_kidsOk, hK, kidsF, Int.reduceAdd, w0, w1, w2, wl, wm, cl_impl_within, sem_impl_within, BB, hn, hr']
  · by_cases h2 : x.Kids.length = 2
    · have hn : ((x.Kids.length : Int) = 2) = True := eq_true (by omega)
      have h2' : (x.Kids.length = 2) = True := eq_true h2
      cases hv : valsB p.Nodes k (x.Kids.take 1)
      all_goals rw [hv] at l1
      all_goals simp only [Bool.true_and, Bool.false_and] at l1
      · rw [okR_false] at l1
        simp (maxSteps := 10000000) (disch := first | assumption | omega) only [cProgram, cNode, F_impl_kidsOk, params, EG, EL, ↓reduceIte, Nat.reduceEqDiff, Nat.reduceAdd, Nat.reduceSub, Nat.reduceMul, Nat.reduceLeDiff, Nat.reduceLT, Int.reduceLT, Int.reduceLE, Int.reduceEq, Int.reduceToNat, reduceCtorEq, FB, ED, FT, cx_impl_kidsOk, hK, kidsF, Int.reduceAdd, w0, w1, w2, wl, wm, cl_impl_within, sem_impl_within, BB, hn, h2', hv, l1]
      · cases hb : blksB p.Nodes k (x.Kids.drop 1)
        all_goals rw [hb] at l1
        · rw [okR_false] at l1
          simp (maxSteps := 10000000) (disch := first | assumption | omega) only [cProgram, cNode, F_impl_kidsOk, params, EG, EL, ↓reduceIte, Nat.reduceEqDiff, Nat.reduceAdd, Nat.reduceSub, Nat.reduceMul, Nat.reduceLeDiff, Nat.reduceLT, Int.reduceLT, Int.reduceLE, Int.reduceEq, Int.reduceToNat, reduceCtorEq, FB, ED, FT, cx_impl_kidsOk, hK, kidsF, Int.reduceAdd, w0, w1, w2, wl, wm, cl_impl_within, sem_impl_within, BB, hn, h2', hv, hb, l1]
        · rw [okR_true] at l1
          simp (maxSteps := 10000000) (disch := first | assumption | omega) only [cProgram, cNode, F_impl_kidsOk, params, EG, EL, ↓reduceIte, Nat.reduceEqDiff, Nat.reduceAdd, Nat.reduceSub, Nat.reduceMul, Nat.reduceLeDiff, Nat.reduceLT, Int.reduceLT, Int.reduceLE, Int.reduceEq, Int.reduceToNat, reduceCtorEq, FB, ED, FT, cx_impl_kidsOk, hK, kidsF, Int.reduceAdd, w0, w1, w2, wl, wm, cl_impl_within, sem_impl_within, BB, hn, h2', hv, hb, l1]
    · have hn : ((x.Kids.length : Int) = 2) = False := eq_false (by omega)
      have h2' : (x.Kids.length = 2) = False := eq_false h2
      simp (maxSteps := 10000000) (disch := first | assumption | omega) only [cProgram, cNode, F_impl_kidsOk, params, EG, EL, ↓reduceIte, Nat.reduceEqDiff, Nat.reduceAdd, Nat.reduceSub, Nat.reduceMul, Nat.reduceLeDiff, Nat.reduceLT, Int.reduceLT, Int.reduceLE, Int.reduceEq, Int.reduceToNat, reduceCtorEq, FB, ED, FT, cx_impl_kidsOk, hK, kidsF, Int.reduceAdd, w0, w1, w2, wl, wm, cl_impl_within, sem_impl_within, BB, hn, h2']
  · by_cases h2 : x.Kids.length = 1
    · have hn : ((x.Kids.length : Int) = 1) = True := eq_true (by omega)
      have h2' : (x.Kids.length = 1) = True := eq_true h2
      have hdr : x.Kids.drop 1 = [] := List.drop_eq_nil_of_le (by omega)
      cases hv : valsB p.Nodes k (x.Kids.take 1)
      all_goals rw [hv] at l1
      all_goals simp only [Bool.true_and, Bool.false_and] at l1
      · rw [okR_false] at l1
        simp (maxSteps := 10000000) (disch := first | assumption | omega) only [cProgram, cNode, F_impl_kidsOk, params, EG, EL, ↓reduceIte, Nat.reduceEqDiff, Nat.reduceAdd, Nat.reduceSub, Nat.reduceMul, Nat.reduceLeDiff, Nat.reduceLT, Int.reduceLT, Int.reduceLE, Int.reduceEq, Int.reduceToNat, reduceCtorEq, FB, ED, FT, cx_impl_kidsOk, hK, kidsF, Int.reduceAdd, w0, w1, w2, wl, wm, cl_impl_within, sem_impl_within, BB, hn, h2', hv, l1]
      · cases hb : blksB p.Nodes k (x.Kids.drop 1)
        all_goals rw [hb] at l1
        · rw [okR_false] at l1
          exfalso; rw [hdr] at hb; simp [blksB] at hb
        · rw [okR_true] at l1
          simp (maxSteps := 10000000) (disch := first | assumption | omega) only [cProgram, cNode, F_impl_kidsOk, params, EG, EL, ↓reduceIte, Nat.reduceEqDiff, Nat.reduceAdd, Nat.reduceSub, Nat.reduceMul, Nat.reduceLeDiff, Nat.reduceLT, Int.reduceLT, Int.reduceLE, Int.reduceEq, Int.reduceToNat, reduceCtorEq, FB, ED, FT, cx_impl_kidsOk, hK, kidsF, Int.reduceAdd, w0, w1, w2, wl, wm, cl_impl_within, sem_impl_within, BB, hn, h2', hv, hb, l1]
    · have hn : ((x.Kids.length : Int) = 1) = False := eq_false (by omega)
      have h2' : (x.Kids.length = 1) = False := eq_false h2
      simp (maxSteps := 10000000) (disch := first | assumption | omega) only [cProgram, cNode, F_impl_kidsOk, params, EG, EL, ↓reduceIte, Nat.reduceEqDiff, Nat.reduceAdd, Nat.reduceSub, Nat.reduceMul, Nat.reduceLeDiff, Nat.reduceLT, Int.reduceLT, Int.reduceLE, Int.reduceEq, Int.reduceToNat, reduceCtorEq, FB, ED, FT, cx_impl_kidsOk, hK, kidsF, Int.reduceAdd, w0, w1, w2, wl, wm, cl_impl_within, sem_impl_within, BB, hn, h2']
  · by_cases h2 : x.Kids.length = 1
    · have hn : ((x.Kids.length : Int) = 1) = True := eq_true (by omega)
      have h2' : (x.Kids.length = 1) = True := eq_true h2
      have hdr : x.Kids.drop 1 = [] := List.drop_eq_nil_of_le (by omega)
      cases hv : valsB p.Nodes k (x.Kids.take 1)
      all_goals rw [hv] at l1
      all_goals simp only [Bool.true_and, Bool.false_and] at l1
      · rw [okR_false] at l1
        simp (maxSteps := 10000000) (disch := first | assumption | omega) only [cProgram, cNode, F_impl_kidsOk, params, EG, EL, ↓reduceIte, Nat.reduceEqDiff, Nat.reduceAdd, Nat.reduceSub, Nat.reduceMul, Nat.reduceLeDiff, Nat.reduceLT, Int.reduceLT, Int.reduceLE, Int.reduceEq, Int.reduceToNat, reduceCtorEq, FB, ED, FT, cx_impl_kidsOk, hK, kidsF, Int.reduceAdd, w0, w1, w2, wl, wm, cl_impl_within, sem_impl_within, BB, hn, h2', hv, l1]
      · cases hb : blksB p.Nodes k (x.Kids.drop 1)
        all_goals rw [hb] at l1
        · rw [okR_false] at l1
          exfalso; rw [hdr] at hb; simp [blksB] at hb
        · rw [okR_true] at l1
          simp (maxSteps := 10000000) (disch := first | assumption | omega) only [cProgram, cNode, F_impl_kidsOk, params, EG, EL, ↓reduceIte, Nat.reduceEqDiff, Nat.reduceAdd, Nat.reduceSub, Nat.reduceMul, Nat.reduceLeDiff, Nat.reduceLT, Int.reduceLT, Int.reduceLE, Int.reduceEq, Int.reduceToNat, reduceCtorEq, FB, ED, FT, cx_impl_kidsOk, hK, kidsF, Int.reduceAdd, w0, w1, w2, wl, wm, cl_impl_within, sem_impl_within, BB, hn, h2', hv, hb, l1]
    · have hn : ((x.Kids.length : Int) = 1) = False := eq_false (by omega)
      have h2' : (x.Kids.length = 1) = False := eq_false h2
      simp (maxSteps := 10000000) (disch := first | assumption | omega) only [cProgram, cNode, F_impl_kidsOk, params, EG, EL, ↓reduceIte, Nat.reduceEqDiff, Nat.reduceAdd, Nat.reduceSub, Nat.reduceMul, Nat.reduceLeDiff, Nat.reduceLT, Int.reduceLT, Int.reduceLE, Int.reduceEq, Int.reduceToNat, reduceCtorEq, FB, ED, FT, cx_impl_kidsOk, hK, kidsF, Int.reduceAdd, w0, w1, w2, wl, wm, cl_impl_within, sem_impl_within, BB, hn, h2']
  · by_cases hz : x.Kids = []
    · rw [hz] at l0 lp
      simp only [EG, EL, ↓reduceIte, Nat.reduceEqDiff, Nat.reduceAdd, Nat.reduceSub, Nat.reduceMul, Nat.reduceLeDiff, Nat.reduceLT, Int.reduceLT, Int.reduceLE, Int.reduceEq, Int.reduceToNat, reduceCtorEq, FB] at l0
      simp only [valsB, blksB, List.take_nil, List.drop_nil, List.all_nil, Bool.and_self, okR_true] at l0
      simp (maxSteps := 10000000) (disch := first | assumption | omega) only [cProgram, cNode, F_impl_kidsOk, params, EG, EL, ↓reduceIte, Nat.reduceEqDiff, Nat.reduceAdd, Nat.reduceSub, Nat.reduceMul, Nat.reduceLeDiff, Nat.reduceLT, Int.reduceLT, Int.reduceLE, Int.reduceEq, Int.reduceToNat, reduceCtorEq, FB, ED, FT, cx_impl_kidsOk, hK, kidsF, Int.reduceAdd, w0, w1, w2, wl, wm, cl_impl_within, sem_impl_within, BB, hz, l0]
    · have hn : ((x.Kids.length : Int) = 0) = False := eq_false (by have := List.length_pos_iff.2 hz; omega)
      have hn2 : (x.Kids.length = 0) = False := eq_false (by have := List.length_pos_iff.2 hz; omega)
      simp (maxSteps := 10000000) (disch := first | assumption | omega) only [cProgram, cNode, F_impl_kidsOk, params, EG, EL, ↓reduceIte, Nat.reduceEqDiff, Nat.reduceAdd, Nat.reduceSub, Nat.reduceMul, Nat.reduceLeDiff, Nat.reduceLT, Int.reduceLT, Int.reduceLE, Int.reduceEq, Int.reduceToNat, reduceCtorEq, FB, ED, FT, cx_impl_kidsOk, hK, kidsF, Int.reduceAdd, w0, w1, w2, wl, wm, cl_impl_within, sem_impl_within, BB, hn, hn2]
  · by_cases hz : x.Kids = []
    · rw [hz] at l0 lp
      simp only [EG, EL, ↓reduceIte, Nat.reduceEqDiff, Nat.reduceAdd, Nat.reduceSub, Nat.reduceMul, Nat.reduceLeDiff, Nat.reduceLT, Int.reduceLT, Int.reduceLE, Int.reduceEq, Int.reduceToNat, reduceCtorEq, FB] at l0
      simp only [valsB, blksB, List.take_nil, List.drop_nil, List.all_nil, Bool.and_self, okR_true] at l0
      simp (maxSteps := 10000000) (disch := first | assumption | omega) only [cProgram, cNode, F_impl_kidsOk, params, EG, EL, ↓reduceIte, Nat.reduceEqDiff, Nat.reduceAdd, Nat.reduceSub, Nat.reduceMul, Nat.reduceLeDiff, Nat.reduceLT, Int.reduceLT, Int.reduceLE, Int.reduceEq, Int.reduceToNat, reduceCtorEq, FB, ED, FT, cx_impl_kidsOk, hK, kidsF, Int.reduceAdd, w0, w1, w2, wl, wm, cl_impl_within, sem_impl_within, BB, hz, l0]
    · have hn : ((x.Kids.length : Int) = 0) = False := eq_false (by have := List.length_pos_iff.2 hz; omega)
      have hn2 : (x.Kids.length = 0) = False := eq_false (by have := List.length_pos_iff.2 hz; omega)
      simp (maxSteps := 10000000) (disch := first | assumption | omega) only [cProgram, cNode, F_impl_kidsOk, params, EG, EL, ↓reduceIte, Nat.reduceEqDiff, Nat.reduceAdd, Nat.reduceSub, Nat.reduceMul, Nat.reduceLeDiff, Nat.reduceLT, Int.reduceLT, Int.reduceLE, Int.reduceEq, Int.reduceToNat, reduceCtorEq, FB, ED, FT, cx_impl_kidsOk, hK, kidsF, Int.reduceAdd, w0, w1, w2, wl, wm, cl_impl_within, sem_impl_within, BB, hn, hn2]
  · by_cases hz : x.Kids = []
    · rw [hz] at l0 lp
      simp only [EG, EL, ↓reduceIte, Nat.reduceEqDiff, Nat.reduceAdd, Nat.reduceSub, Nat.reduceMul, Nat.reduceLeDiff, Nat.reduceLT, Int.reduceLT, Int.reduceLE, Int.reduceEq, Int.reduceToNat, reduceCtorEq, FB] at l0
      simp only [valsB, blksB, List.take_nil, List.drop_nil, List.all_nil, Bool.and_self, okR_true] at l0
      simp (maxSteps := 10000000) (disch := first | assumption | omega) only [cProgram, cNode, F_impl_kidsOk, params, EG, EL, ↓reduceIte, Nat.reduceEqDiff, Nat.reduceAdd, Nat.reduceSub, Nat.reduceMul, Nat.reduceLeDiff, Nat.reduceLT, Int.reduceLT, Int.reduceLE, Int.reduceEq, Int.reduceToNat, reduceCtorEq, FB, ED, FT, cx_impl_kidsOk, hK, kidsF, Int.reduceAdd, w0, w1, w2, wl, wm, cl_impl_within, sem_impl_within, BB, hz, l0]
    · have hn : ((x.Kids.length : Int) = 0) = False := eq_false (by have := List.length_pos_iff.2 hz; omega)
      have hn2 : (x.Kids.length = 0) = False := eq_false (by have := List.length_pos_iff.2 hz; omega)
      simp (maxSteps := 10000000) (disch := first | assumption | omega) only [cProgram, cNode, F_impl_kidsOk, params, EG, EL, ↓reduceIte, Nat.reduceEqDiff, Nat.reduceAdd, Nat.reduceSub, Nat.reduceMul, Nat.reduceLeDiff, Nat.reduceLT, Int.reduceLT, Int.reduceLE, Int.reduceEq, Int.reduceToNat, reduceCtorEq, FB, ED, FT, cx_impl_kidsOk, hK, kidsF, Int.reduceAdd, w0, w1, w2, wl, wm, cl_impl_within, sem_impl_within, BB, hn, hn2]
  · by_cases hz : x.Kids = []
    · rw [hz] at l0 lp
      simp only [EG, EL, ↓reduceIte, Nat.reduceEqDiff, Nat.reduceAdd, Nat.reduceSub, Nat.reduceMul, Nat.reduceLeDiff, Nat.reduceLT, Int.reduceLT, Int.reduceLE, Int.reduceEq, Int.reduceToNat, reduceCtorEq, FB] at l0
      simp only [valsB, blksB, List.take_nil, List.drop_nil, List.all_nil, Bool.and_self, okR_true] at l0
      simp (maxSteps := 10000000) (disch := first | assumption | omega) only [cProgram, cNode, F_impl_kidsOk, params, EG, EL, ↓reduceIte, Nat.reduceEqDiff, Nat.reduceAdd, Nat.reduceSub, Nat.reduceMul, Nat.reduceLeDiff, Nat.reduceLT, Int.reduceLT, Int.reduceLE, Int.reduceEq, Int.reduceToNat, reduceCtorEq, FB, ED, FT, cx_impl_kidsOk, hK, kidsF, Int.reduceAdd, w0, w1, w2, wl, wm, cl_impl_within, sem_impl_within, BB, hz, l0]
    · have hn : ((x.Kids.length : Int) = 0) = False := eq_false (by have := List.length_pos_iff.2 hz; omega)
      have hn2 : (x.Kids.length = 0) = False := eq_false (by have := List.length_pos_iff.2 hz; omega)
      simp (maxSteps := 10000000) (disch := first | assumption | omega) only [cProgram, cNode, F_impl_kidsOk, params, EG, EL, ↓reduceIte, Nat.reduceEqDiff, Nat.reduceAdd, Nat.reduceSub, Nat.reduceMul, Nat.reduceLeDiff, Nat.reduceLT, Int.reduceLT, Int.reduceLE, Int.reduceEq, Int.reduceToNat, reduceCtorEq, FB, ED, FT, cx_impl_kidsOk, hK, kidsF, Int.reduceAdd, w0, w1, w2, wl, wm, cl_impl_within, sem_impl_within, BB, hn, hn2]
  · cases hs : stmsB p.Nodes k x.Kids
    · rw [hs, okR_false] at lp
      simp (maxSteps := 10000000) (disch := first | assumption | omega) only [cProgram, cNode, F_impl_kidsOk, params, EG, EL, ↓reduceIte, Nat.reduceEqDiff, Nat.reduceAdd, Nat.reduceSub, Nat.reduceMul, Nat.reduceLeDiff, Nat.reduceLT, Int.reduceLT, Int.reduceLE, Int.reduceEq, Int.reduceToNat, reduceCtorEq, FB, ED, FT, cx_impl_kidsOk, hK, kidsF, Int.reduceAdd, w0, w1, w2, wl, wm, cl_impl_within, sem_impl_within, BB, lp, hs]
    · rw [hs, okR_true] at lp
      simp (maxSteps := 10000000) (disch := first | assumption | omega) only [cProgram, cNode, F_impl_kidsOk, params, EG, EL, ↓reduceIte, Nat.reduceEqDiff, Nat.reduceAdd, Nat.reduceSub, Nat.reduceMul, Nat.reduceLeDiff, Nat.reduceLT, Int.reduceLT, Int.reduceLE, Int.reduceEq, Int.reduceToNat, reduceCtorEq, FB, ED, FT, cx_impl_kidsOk, hK, kidsF, Int.reduceAdd, w0, w1, w2, wl, wm, cl_impl_within, sem_impl_within, BB, lp, hs]
theorem eqP (q : Prop) : (q = True) ∨ (q = False) := by
  by_cases h : q
  · exact .inl (eq_true h)
  · exact .inr (eq_false h)
theorem kind15 {k : Int} (hkd : kindB k = true) : k = 1 ∨ k = 2 ∨ k = 3 ∨ k = 4 ∨ k = 5 ∨ k = 11 ∨ k = 12 ∨ k = 13 ∨ k = 14 ∨ k = 15 ∨ k = 16 ∨ k = 17 ∨ k = 18 ∨ k = 19 ∨ k = 20 := by
  unfold kindB isValK isStmK isBlkK at hkd
  simp only [Bool.or_eq_true, decide_eq_true_eq] at hkd
  omega

end Go.Proofs.Ytdhmlhlpdejefaa.AI
